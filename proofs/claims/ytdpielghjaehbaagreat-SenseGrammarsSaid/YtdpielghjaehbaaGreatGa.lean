/- regletlaw06.SenseGrammars: the walk. -/
import Derived.Test.YtdpielghjaehbaaGreatRm
import Derived.Test.YtdpielghjaehbaaGreatEg
import Derived.Test.YtdpielghjaehbaaGreatLp
set_option linter.unusedSectionVars false
set_option linter.unusedSimpArgs false
set_option linter.unusedVariables false
namespace Go.Proofs.YtdpielghjaehbaaGreat.Ev
open Go.RowKit

variable {mem : Nat → Nat → Option Value} {B0 : Nat}

theorem gr_no : ∀ k, k < 9 → ∃ text g, gtexts[k]? = some (.str text) ∧ ReadsTo mem B0 text g ∧ g.length < 1000 ∧ (∀ r ∈ g, wfEx ([45] :: namesOf g) r.ex = true) ∧ ruleOf [45] g = none
  | 0, _ => ⟨text_g0, gram_g0, rfl, l_read run_g0, by decide, by decide, rfl⟩
  | 1, _ => ⟨text_g1, gram_g1, rfl, l_read run_g1, by decide, by decide, rfl⟩
  | 2, _ => ⟨text_g2, gram_g2, rfl, l_read run_g2, by decide, by decide, rfl⟩
  | 3, _ => ⟨text_g3, gram_g3, rfl, l_read run_g3, by decide, by decide, rfl⟩
  | 4, _ => ⟨text_g4, gram_g4, rfl, l_read run_g4, by decide, by decide, rfl⟩
  | 5, _ => ⟨text_g5, gram_g5, rfl, l_read run_g5, by decide, by decide, rfl⟩
  | 6, _ => ⟨text_g6, gram_g6, rfl, l_read run_g6, by decide, by decide, rfl⟩
  | 7, _ => ⟨text_g7, gram_g7, rfl, l_read run_g7, by decide, by decide, rfl⟩
  | 8, _ => ⟨text_g8, gram_g8, rfl, l_read run_g8, by decide, by decide, rfl⟩
  | k + 9, h => absurd h (by omega)

theorem mod9_lt {a : Int} (h0 : 0 ≤ a) (h1 : a < 256) : ∃ L : Nat, (IntKind.i64.wrap a).tmod ((9 : Nat) : Int) = (L : Int) ∧ L < 9 := by
  rw [wrap_id (by omega) (by omega), Int.tmod_eq_emod_of_nonneg h0]
  have h2 := Int.emod_nonneg a (b := ((9 : Nat) : Int)) (by omega)
  have h3 := Int.emod_lt_of_pos a (b := ((9 : Nat) : Int)) (by omega)
  exact ⟨(a % ((9 : Nat) : Int)).toNat, by omega, by omega⟩

set_option maxRecDepth 20000 in
set_option maxHeartbeats 4000000 in
theorem senseGrammars_abs (k : Int) (hk0 : 0 ≤ k) (hk1 : k < 256) (x : AC) (l : List UInt8) (hx : BytesIn mem x l) (utf : Bool) (d : Seg) (n : Nat) :
    CallsA Tryz.prog (lenv mem) B0 3 [.c (.int .u8 k), .c x, .c (.bool utf)] d n fun v d' n' => v = .c (.bool true) := by
  refine callsA_code lenv_ok none1_ok Tryz.func3 rfl (by decide) rfl rfl (by simp) fun hl _ Q hQ => ?_
  simp +decide -implicitDefEqProofs only [stp,code_seq,evWanted,evOp,val,absV,evBin,evConv,evBuiltin,cmpInt,vals,partsOf,isAggD,cellsOf,isAggV,Nat.reduceEqDiff,Nat.reduceLT,Nat.reduceBEq,Nat.reduceBNe,reduceCtorEq,if_true,if_false,reduceIte,forall_const,IntKind.bits,IntKind.signed,eq_self_iff_true,finalOf,resultOf,cellsGood,AC.isCell,senv_mem,lift, Tryz.f3, lty3,lty4,lty5,lty9,lty22,lty33,lty25,lty34,lty23,lty36,lty40,lty98,lty96,lty93,lty95,lty54,lty38,lty31, lenv_mem, none1]
  refine call_mono (grammars_ok d n) fun v d2 n2 hR hl2 hle2 hok2 => ?_
  obtain ⟨hk2, j1, hj1, rfl, hg1⟩ := hR
  simp +decide -implicitDefEqProofs only [stp,code_seq,evWanted,evOp,val,absV,evBin,evConv,evBuiltin,cmpInt,vals,partsOf,isAggD,cellsOf,isAggV,Nat.reduceEqDiff,Nat.reduceLT,Nat.reduceBEq,Nat.reduceBNe,reduceCtorEq,if_true,if_false,reduceIte,forall_const,IntKind.bits,IntKind.signed,eq_self_iff_true,finalOf,resultOf,cellsGood,AC.isCell,senv_mem,lift, spliceAll,allFields,places,splice,List.take_zero,List.take_succ_cons,List.take_nil,List.drop_zero,List.drop_succ_cons,List.drop_nil,List.nil_append,List.append_nil,List.cons_append,List.all_cons,List.all_nil,Option.isSome_some,Nat.reduceAdd,Nat.reduceSub,Nat.reduceMul,Nat.reduceMod,Nat.reduceLeDiff,List.range,List.range.loop,List.map_cons,List.map_nil,pfind, lty3,lty4,lty5,lty9,lty22,lty33,lty25,lty34,lty23,lty36,lty40,lty98,lty96,lty93,lty95,lty54,lty38,lty31, lenv_mem, none1]
  refine call_mono (grammars_ok d2 n2) fun v d3 n3 hR hl3 hle3 hok3 => ?_
  obtain ⟨hk3, j2, hj2, rfl, hg2⟩ := hR
  have hg1 := (hk3 j1 (hl2 j1 _ hg1).1).trans hg1
  obtain ⟨ix, hix, hix9⟩ := mod9_lt hk0 hk1
  obtain ⟨text, g, htx, hread, hgl, hwf, hno⟩ := gr_no (mem := mem) (B0 := B0) ix hix9
  have h99 : (((9 : Nat) : Int) == 0) = false := rfl
  have hi0 : (0 : Int) ≤ (ix : Int) := by omega
  have hi1 : (ix : Int) < ((9 : Nat) : Int) := by omega
  simp +decide -implicitDefEqProofs only [stp,code_seq,evWanted,evOp,val,absV,evBin,evConv,evBuiltin,cmpInt,vals,partsOf,isAggD,cellsOf,isAggV,Nat.reduceEqDiff,Nat.reduceLT,Nat.reduceBEq,Nat.reduceBNe,reduceCtorEq,if_true,if_false,reduceIte,forall_const,IntKind.bits,IntKind.signed,eq_self_iff_true,finalOf,resultOf,cellsGood,AC.isCell,senv_mem,lift, spliceAll,allFields,places,splice,List.take_zero,List.take_succ_cons,List.take_nil,List.drop_zero,List.drop_succ_cons,List.drop_nil,List.nil_append,List.append_nil,List.cons_append,List.all_cons,List.all_nil,Option.isSome_some,Nat.reduceAdd,Nat.reduceSub,Nat.reduceMul,Nat.reduceMod,Nat.reduceLeDiff,List.range,List.range.loop,List.map_cons,List.map_nil,pfind, lty3,lty4,lty5,lty9,lty22,lty33,lty25,lty34,lty23,lty36,lty40,lty98,lty96,lty93,lty95,lty54,lty38,lty31, lenv_mem, none1, hix, h99, hi0, hi1, hg1, Int.toNat_natCast, htx]
  refine call_mono (hread d3 n3) fun v d4 n4 hR hl4 hle4 hok4 => ?_
  obtain ⟨xg, rfl, hr4, hn4, hk4⟩ := hR
  simp +decide -implicitDefEqProofs only [stp,code_seq,evWanted,evOp,val,absV,evBin,evConv,evBuiltin,cmpInt,vals,partsOf,isAggD,cellsOf,isAggV,Nat.reduceEqDiff,Nat.reduceLT,Nat.reduceBEq,Nat.reduceBNe,reduceCtorEq,if_true,if_false,reduceIte,forall_const,IntKind.bits,IntKind.signed,eq_self_iff_true,finalOf,resultOf,cellsGood,AC.isCell,senv_mem,lift, spliceAll,allFields,places,splice,List.take_zero,List.take_succ_cons,List.take_nil,List.drop_zero,List.drop_succ_cons,List.drop_nil,List.nil_append,List.append_nil,List.cons_append,List.all_cons,List.all_nil,Option.isSome_some,Nat.reduceAdd,Nat.reduceSub,Nat.reduceMul,Nat.reduceMod,Nat.reduceLeDiff,List.range,List.range.loop,List.map_cons,List.map_nil,pfind, lty3,lty4,lty5,lty9,lty22,lty33,lty25,lty34,lty23,lty36,lty40,lty98,lty96,lty93,lty95,lty54,lty38,lty31, lenv_mem, none1, -code_seq]
  rw [code_seq]
  refine code_cutR (fun s' d' n' => d' = d4 ∧ n' = n4 ∧ s'.nt = 30 ∧ s'.get 2 = .c (.bool utf) ∧ s'.get 7 = .c xg ∧ ∃ x' l', BytesIn mem x' l' ∧ s'.get 1 = .c x') ?_ ?_
  · intro Q' hQ'
    have hx0 := hx
    rcases hx with ⟨rfl, rfl⟩ | ⟨a, cap, rfl, hcap, hcells⟩
    · have h6 : ¬ (0 : Int) > 8 := by omega
      simp +decide -implicitDefEqProofs only [stp,code_seq,evWanted,evOp,val,absV,evBin,evConv,evBuiltin,cmpInt,vals,partsOf,isAggD,cellsOf,isAggV,Nat.reduceEqDiff,Nat.reduceLT,Nat.reduceBEq,Nat.reduceBNe,reduceCtorEq,if_true,if_false,reduceIte,forall_const,IntKind.bits,IntKind.signed,eq_self_iff_true,finalOf,resultOf,cellsGood,AC.isCell,senv_mem,lift, spliceAll,allFields,places,splice,List.take_zero,List.take_succ_cons,List.take_nil,List.drop_zero,List.drop_succ_cons,List.drop_nil,List.nil_append,List.append_nil,List.cons_append,List.all_cons,List.all_nil,Option.isSome_some,Nat.reduceAdd,Nat.reduceSub,Nat.reduceMul,Nat.reduceMod,Nat.reduceLeDiff,List.range,List.range.loop,List.map_cons,List.map_nil,pfind, lty3,lty4,lty5,lty9,lty22,lty33,lty25,lty34,lty23,lty36,lty40,lty98,lty96,lty93,lty95,lty54,lty38,lty31, lenv_mem, none1, h6]
      refine hQ' _ _ _ ⟨rfl, rfl, by simp only [nt_put], ?_⟩
      simp +decide -implicitDefEqProofs only [stp,code_seq,evWanted,evOp,val,absV,evBin,evConv,evBuiltin,cmpInt,vals,partsOf,isAggD,cellsOf,isAggV,Nat.reduceEqDiff,Nat.reduceLT,Nat.reduceBEq,Nat.reduceBNe,reduceCtorEq,if_true,if_false,reduceIte,forall_const,IntKind.bits,IntKind.signed,eq_self_iff_true,finalOf,resultOf,cellsGood,AC.isCell,senv_mem,lift]
      exact ⟨_, _, hx0, rfl⟩
    · by_cases h6 : (l.length : Int) > 8
      · obtain ⟨b, off, sp⟩ := a
        obtain ⟨hsp, _⟩ := hcells 0 (l[0]'(by omega)) (List.getElem?_eq_getElem (by omega))
        simp only at hsp
        subst hsp
        have h66 : (8 : Int) ≤ cap := by omega
        have t6 : Int.toNat 8 = 8 := rfl
        simp +decide -implicitDefEqProofs only [stp,code_seq,evWanted,evOp,val,absV,evBin,evConv,evBuiltin,cmpInt,vals,partsOf,isAggD,cellsOf,isAggV,Nat.reduceEqDiff,Nat.reduceLT,Nat.reduceBEq,Nat.reduceBNe,reduceCtorEq,if_true,if_false,reduceIte,forall_const,IntKind.bits,IntKind.signed,eq_self_iff_true,finalOf,resultOf,cellsGood,AC.isCell,senv_mem,lift, spliceAll,allFields,places,splice,List.take_zero,List.take_succ_cons,List.take_nil,List.drop_zero,List.drop_succ_cons,List.drop_nil,List.nil_append,List.append_nil,List.cons_append,List.all_cons,List.all_nil,Option.isSome_some,Nat.reduceAdd,Nat.reduceSub,Nat.reduceMul,Nat.reduceMod,Nat.reduceLeDiff,List.range,List.range.loop,List.map_cons,List.map_nil,pfind, lty3,lty4,lty5,lty9,lty22,lty33,lty25,lty34,lty23,lty36,lty40,lty98,lty96,lty93,lty95,lty54,lty38,lty31, lenv_mem, none1, h6, h66, t6]
        refine hQ' _ _ _ ⟨rfl, rfl, by simp only [nt_put], ?_⟩
        simp +decide -implicitDefEqProofs only [stp,code_seq,evWanted,evOp,val,absV,evBin,evConv,evBuiltin,cmpInt,vals,partsOf,isAggD,cellsOf,isAggV,Nat.reduceEqDiff,Nat.reduceLT,Nat.reduceBEq,Nat.reduceBNe,reduceCtorEq,if_true,if_false,reduceIte,forall_const,IntKind.bits,IntKind.signed,eq_self_iff_true,finalOf,resultOf,cellsGood,AC.isCell,senv_mem,lift]
        exact ⟨_, _, BytesIn.cut (by omega) hcap hcells, rfl⟩
      · simp +decide -implicitDefEqProofs only [stp,code_seq,evWanted,evOp,val,absV,evBin,evConv,evBuiltin,cmpInt,vals,partsOf,isAggD,cellsOf,isAggV,Nat.reduceEqDiff,Nat.reduceLT,Nat.reduceBEq,Nat.reduceBNe,reduceCtorEq,if_true,if_false,reduceIte,forall_const,IntKind.bits,IntKind.signed,eq_self_iff_true,finalOf,resultOf,cellsGood,AC.isCell,senv_mem,lift, spliceAll,allFields,places,splice,List.take_zero,List.take_succ_cons,List.take_nil,List.drop_zero,List.drop_succ_cons,List.drop_nil,List.nil_append,List.append_nil,List.cons_append,List.all_cons,List.all_nil,Option.isSome_some,Nat.reduceAdd,Nat.reduceSub,Nat.reduceMul,Nat.reduceMod,Nat.reduceLeDiff,List.range,List.range.loop,List.map_cons,List.map_nil,pfind, lty3,lty4,lty5,lty9,lty22,lty33,lty25,lty34,lty23,lty36,lty40,lty98,lty96,lty93,lty95,lty54,lty38,lty31, lenv_mem, none1, h6]
        refine hQ' _ _ _ ⟨rfl, rfl, by simp only [nt_put], ?_⟩
        simp +decide -implicitDefEqProofs only [stp,code_seq,evWanted,evOp,val,absV,evBin,evConv,evBuiltin,cmpInt,vals,partsOf,isAggD,cellsOf,isAggV,Nat.reduceEqDiff,Nat.reduceLT,Nat.reduceBEq,Nat.reduceBNe,reduceCtorEq,if_true,if_false,reduceIte,forall_const,IntKind.bits,IntKind.signed,eq_self_iff_true,finalOf,resultOf,cellsGood,AC.isCell,senv_mem,lift]
        exact ⟨_, _, hx0, rfl⟩
  rintro S d5 n5 ⟨rfl, rfl, hnt, g2, g7, x, l, hx, g1⟩
  simp +decide -implicitDefEqProofs only [stp,code_seq,evWanted,evOp,val,absV,evBin,evConv,evBuiltin,cmpInt,vals,partsOf,isAggD,cellsOf,isAggV,Nat.reduceEqDiff,Nat.reduceLT,Nat.reduceBEq,Nat.reduceBNe,reduceCtorEq,if_true,if_false,reduceIte,forall_const,IntKind.bits,IntKind.signed,eq_self_iff_true,finalOf,resultOf,cellsGood,AC.isCell,senv_mem,lift, spliceAll,allFields,places,splice,List.take_zero,List.take_succ_cons,List.take_nil,List.drop_zero,List.drop_succ_cons,List.drop_nil,List.nil_append,List.append_nil,List.cons_append,List.all_cons,List.all_nil,Option.isSome_some,Nat.reduceAdd,Nat.reduceSub,Nat.reduceMul,Nat.reduceMod,Nat.reduceLeDiff,List.range,List.range.loop,List.map_cons,List.map_nil,pfind, lty3,lty4,lty5,lty9,lty22,lty33,lty25,lty34,lty23,lty36,lty40,lty98,lty96,lty93,lty95,lty54,lty38,lty31, lenv_mem, none1, hnt, g1, g2, g7]
  refine call_mono (awake_ok d5 n5) fun v d6 n6 hR hl6 hle6 hok6 => ?_
  obtain ⟨rfl, hk6⟩ := hR
  simp +decide -implicitDefEqProofs only [stp,code_seq,evWanted,evOp,val,absV,evBin,evConv,evBuiltin,cmpInt,vals,partsOf,isAggD,cellsOf,isAggV,Nat.reduceEqDiff,Nat.reduceLT,Nat.reduceBEq,Nat.reduceBNe,reduceCtorEq,if_true,if_false,reduceIte,forall_const,IntKind.bits,IntKind.signed,eq_self_iff_true,finalOf,resultOf,cellsGood,AC.isCell,senv_mem,lift, spliceAll,allFields,places,splice,List.take_zero,List.take_succ_cons,List.take_nil,List.drop_zero,List.drop_succ_cons,List.drop_nil,List.nil_append,List.append_nil,List.cons_append,List.all_cons,List.all_nil,Option.isSome_some,Nat.reduceAdd,Nat.reduceSub,Nat.reduceMul,Nat.reduceMod,Nat.reduceLeDiff,List.range,List.range.loop,List.map_cons,List.map_nil,pfind, lty3,lty4,lty5,lty9,lty22,lty33,lty25,lty34,lty23,lty36,lty40,lty98,lty96,lty93,lty95,lty54,lty38,lty31, lenv_mem, none1, hnt, g1, g2, g7]
  refine call_mono (letters_ok hx d6 n6) fun v d7 n7 hR hl7 hle7 hok7 => ?_
  obtain ⟨hk7, s, hs, rfl⟩ := hR
  have hr7 := isRules_keep hl6 hk7 (isRules_keep hl4 hk6 hr4)
  simp +decide -implicitDefEqProofs only [stp,code_seq,evWanted,evOp,val,absV,evBin,evConv,evBuiltin,cmpInt,vals,partsOf,isAggD,cellsOf,isAggV,Nat.reduceEqDiff,Nat.reduceLT,Nat.reduceBEq,Nat.reduceBNe,reduceCtorEq,if_true,if_false,reduceIte,forall_const,IntKind.bits,IntKind.signed,eq_self_iff_true,finalOf,resultOf,cellsGood,AC.isCell,senv_mem,lift, spliceAll,allFields,places,splice,List.take_zero,List.take_succ_cons,List.take_nil,List.drop_zero,List.drop_succ_cons,List.drop_nil,List.nil_append,List.append_nil,List.cons_append,List.all_cons,List.all_nil,Option.isSome_some,Nat.reduceAdd,Nat.reduceSub,Nat.reduceMul,Nat.reduceMod,Nat.reduceLeDiff,List.range,List.range.loop,List.map_cons,List.map_nil,pfind, lty3,lty4,lty5,lty9,lty22,lty33,lty25,lty34,lty23,lty36,lty40,lty98,lty96,lty93,lty95,lty54,lty38,lty31, lenv_mem, none1, hnt, g1, g2, g7]
  refine call_mono (l_fine (NM := [45] :: namesOf g) hr7 hgl hwf (fun r hr => List.mem_cons_of_mem _ (List.mem_map_of_mem hr)) (List.mem_cons_self ..) hno (by omega) (by simp [namesOf]; omega)) fun v d8 n8 hR hl8 hle8 hok8 => ?_
  subst hR
  simp +decide -implicitDefEqProofs only [stp,code_seq,evWanted,evOp,val,absV,evBin,evConv,evBuiltin,cmpInt,vals,partsOf,isAggD,cellsOf,isAggV,Nat.reduceEqDiff,Nat.reduceLT,Nat.reduceBEq,Nat.reduceBNe,reduceCtorEq,if_true,if_false,reduceIte,forall_const,IntKind.bits,IntKind.signed,eq_self_iff_true,finalOf,resultOf,cellsGood,AC.isCell,senv_mem,lift, spliceAll,allFields,places,splice,List.take_zero,List.take_succ_cons,List.take_nil,List.drop_zero,List.drop_succ_cons,List.drop_nil,List.nil_append,List.append_nil,List.cons_append,List.all_cons,List.all_nil,Option.isSome_some,Nat.reduceAdd,Nat.reduceSub,Nat.reduceMul,Nat.reduceMod,Nat.reduceLeDiff,List.range,List.range.loop,List.map_cons,List.map_nil,pfind, lty3,lty4,lty5,lty9,lty22,lty33,lty25,lty34,lty23,lty36,lty40,lty98,lty96,lty93,lty95,lty54,lty38,lty31, lenv_mem, none1, hnt]
  refine hQ _ _ _ _ (.c (.bool true)) (by simp) ?_ rfl
  simp +decide -implicitDefEqProofs only [stp,code_seq,evWanted,evOp,val,absV,evBin,evConv,evBuiltin,cmpInt,vals,partsOf,isAggD,cellsOf,isAggV,Nat.reduceEqDiff,Nat.reduceLT,Nat.reduceBEq,Nat.reduceBNe,reduceCtorEq,if_true,if_false,reduceIte,forall_const,IntKind.bits,IntKind.signed,eq_self_iff_true,finalOf,resultOf,cellsGood,AC.isCell,senv_mem,lift, Tryz.f3, hnt]

theorem senseGrammars_calls {k : Int} {v0 : Value} {utf : Bool} {l : List UInt8} {w : World} (hk0 : 0 ≤ k) (hk1 : k < 256) (hx : BytesIn (memOf w) (lift v0) l) :
    Calls Tryz.prog 3 #[.int .u8 k, v0, .bool utf] w fun e w' => e = .returned (.bool true) ∧ Below w.heap.size w w' := by
  have h := calls_of_abs (E := lenv (memOf w)) (w := w) (fun b o v hv => memOf_ok hv) (by
    intro x hx
    simp only [List.mem_cons, List.not_mem_nil, or_false] at hx
    rcases hx with rfl | rfl | rfl
    · trivial
    · exact ok_lift _ v0
    · trivial) (senseGrammars_abs (B0 := w.heap.size) k hk0 hk1 (lift v0) l hx utf [] 0)
  have e : (List.map (concV fun _ => (0, 0)) [AV.c (.int .u8 k), AV.c (lift v0), AV.c (.bool utf)]).toArray = #[.int .u8 k, v0, .bool utf] := by
    simp only [List.map_cons, List.map_nil, lift_conc]
    rfl
  rw [e] at h
  refine h.mono ?_
  rintro e w' ⟨v, d, n, al, ρ, rfl, hrep, hb, hok, rfl⟩
  exact ⟨rfl, hb⟩

end Go.Proofs.YtdpielghjaehbaaGreat.Ev
