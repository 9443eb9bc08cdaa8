/- regletlaw04: an expression by numbers. -/
import Derived.Test.YtdpielghjaehbaaGreatMb
set_option linter.unusedSectionVars false
set_option linter.unusedSimpArgs false
set_option linter.unusedVariables false
namespace Go.Proofs.YtdpielghjaehbaaGreat.Ev
open Go.RowKit

variable {mem : Nat → Nat → Option Value} {B0 : Nat}

def cost : Nat → Nat
  | 0 => 4
  | d + 1 => 3 * cost d + 4

def NMs : List (List UInt8) := [[45], [97], [98], [99], [119, 111, 114, 100], [120, 45, 49]]

theorem refs5 : ∀ p, p < 5 → ∃ t, [AC.str [97], .str [98], .str [99], .str [119, 111, 114, 100], .str [120, 45, 49]][p]? = some (.str t) ∧ t ∈ NMs ∧ t ≠ [45] ∧ wfEx NMs (.mk 4 t [] 0 0 []) = true
  | 0, _ => ⟨_, rfl, by decide, by decide, by decide⟩
  | 1, _ => ⟨_, rfl, by decide, by decide, by decide⟩
  | 2, _ => ⟨_, rfl, by decide, by decide, by decide⟩
  | 3, _ => ⟨_, rfl, by decide, by decide, by decide⟩
  | 4, _ => ⟨_, rfl, by decide, by decide, by decide⟩
  | p + 5, h => absurd h (by omega)

theorem folds5 : ∀ p, p < 5 → ∃ t, [AC.str [], .str [97], .str [98, 32, 99], .str [120, 59], .str [105, 102]][p]? = some (.str t) ∧ wfEx NMs (.mk 5 t [] 0 0 []) = true
  | 0, _ => ⟨_, rfl, by decide⟩
  | 1, _ => ⟨_, rfl, by decide⟩
  | 2, _ => ⟨_, rfl, by decide⟩
  | 3, _ => ⟨_, rfl, by decide⟩
  | 4, _ => ⟨_, rfl, by decide⟩
  | p + 5, h => absurd h (by omega)

theorem ints5 : ∀ p, p < 5 → ∃ z, [AC.int .i64 0, .int .i64 65, .int .i64 10, .int .i64 255, .int .i64 1114111][p]? = some (.int .i64 z)
  | 0, _ => ⟨_, rfl⟩
  | 1, _ => ⟨_, rfl⟩
  | 2, _ => ⟨_, rfl⟩
  | 3, _ => ⟨_, rfl⟩
  | 4, _ => ⟨_, rfl⟩
  | p + 5, h => absurd h (by omega)

/-- What expr makes. -/
def MadeEx (ix n At c : Nat) (x : AC) (d : Seg) (v : AV) (d' : Seg) : Prop :=
  ∃ e cs At', v = .agg cs ∧ TreeAt n d' e cs ∧ wfEx NMs e = true ∧ cs.length = 6 ∧ cs.all AC.isCell = true ∧ PK d' ix x At' ∧ At' ≤ At + c ∧ Sets ix n d d'

def ExprOk (mem : Nat → Nat → Option Value) (x : AC) (ix dp : Nat) : Prop :=
  ∀ (B0 : Nat) (d : Seg) (n At : Nat), PK d ix x At → At + cost dp ≤ 90000 →
    CallsA Tryz.prog (lenv mem) B0 20 [.c (.ptr ix 0), .c (.int .i64 dp)] d n fun v d' n' => MadeEx ix n At (cost dp) x d v d'

theorem PK.at_ {d d' : Seg} {ix At : Nat} {x : AC} (h : PK d ix x At) (e : get [d'] ix = get [d] ix) : PK d' ix x At := e.trans h

theorem pk_top {d : Seg} {ix At : Nat} {x : AC} : PK ((ix, some (.cells 54 [x, .int .i64 ((At + 1 : Nat) : Int)])) :: d) ix x (At + 1) := by rw [PK, get_cons, if_pos rfl]

def zeroEx : List AC := [.int .i64 0, .str [], .sl0, .int .i64 0, .int .i64 0, .sl0]

theorem cost_pos (dp : Nat) : 4 ≤ cost dp := by cases dp <;> simp only [cost] <;> omega

/-- Kids that have come so far. -/
def KidsT (n : Nat) (d : Seg) (K : AC) (es : List Ex) : Prop := (es = [] ∧ K = .sl0) ∨ ∃ jk kcs, n + 2 ≤ jk ∧ K = .sl jk es.length ∧ es ≠ [] ∧ get [d] jk = some (.cells 36 kcs) ∧ kcs.length = es.length * 6 ∧ kcs.all AC.isCell = true ∧ isKids [(jk, none) :: newOnly (n + 2) d] es kcs = true

set_option maxRecDepth 20000 in
set_option maxHeartbeats 8000000 in
theorem expr_step {x : AC} {l : List UInt8} (hx : BytesIn mem x l) {ix dp : Nat} (ih : ∀ k, dp = k + 1 → ExprOk mem x ix k) : ExprOk mem x ix dp := by
  intro B0 d n At hpk hAt
  refine callsA_code lenv_ok none1_ok Tryz.func20 rfl (by decide) rfl rfl (by simp) fun hl ha Q hQ => ?_
  have hixn := (hl ix _ hpk).1
  have hcp := cost_pos dp
  simp +decide -implicitDefEqProofs only [stp,code_seq,evWanted,evOp,val,absV,evBin,evConv,evBuiltin,cmpInt,vals,partsOf,isAggD,cellsOf,isAggV,Nat.reduceEqDiff,Nat.reduceLT,Nat.reduceBEq,Nat.reduceBNe,reduceCtorEq,if_true,if_false,reduceIte,forall_const,IntKind.bits,IntKind.signed,eq_self_iff_true,finalOf,resultOf,cellsGood,AC.isCell,senv_mem,lift, bld,spliceAll,allFields,places,splice,Nat.reduceAdd,Nat.reduceSub,Nat.reduceMul,Nat.reduceMod,Nat.reduceLeDiff,List.range,List.range.loop,pfind, Tryz.f20, ltyA, lenv_mem, none1, -code_seq]
  rw [code_seq]
  simp +decide -implicitDefEqProofs only [stp,code_seq,evWanted,evOp,val,absV,evBin,evConv,evBuiltin,cmpInt,vals,partsOf,isAggD,cellsOf,isAggV,Nat.reduceEqDiff,Nat.reduceLT,Nat.reduceBEq,Nat.reduceBNe,reduceCtorEq,if_true,if_false,reduceIte,forall_const,IntKind.bits,IntKind.signed,eq_self_iff_true,finalOf,resultOf,cellsGood,AC.isCell,senv_mem,lift, bld,spliceAll,allFields,places,splice,Nat.reduceAdd,Nat.reduceSub,Nat.reduceMul,Nat.reduceMod,Nat.reduceLeDiff,List.range,List.range.loop,pfind, ltyA, lenv_mem, none1, -code_seq]
  rw [code_seq]
  simp +decide -implicitDefEqProofs only [stp,code_seq,evWanted,evOp,val,absV,evBin,evConv,evBuiltin,cmpInt,vals,partsOf,isAggD,cellsOf,isAggV,Nat.reduceEqDiff,Nat.reduceLT,Nat.reduceBEq,Nat.reduceBNe,reduceCtorEq,if_true,if_false,reduceIte,forall_const,IntKind.bits,IntKind.signed,eq_self_iff_true,finalOf,resultOf,cellsGood,AC.isCell,senv_mem,lift, bld,spliceAll,allFields,places,splice,Nat.reduceAdd,Nat.reduceSub,Nat.reduceMul,Nat.reduceMod,Nat.reduceLeDiff,List.range,List.range.loop,pfind, ltyA, lenv_mem, none1, -code_seq]
  have hpk0 : PK ((n, some (AObj.cells 36 zeroEx)) :: d) ix x At := by rw [PK, get_cons, if_neg (by omega)]; exact hpk
  refine call_mono (pick_ok hx hpk0 (by omega) (by omega) (by omega)) fun v d1 n1 hR hl1 hle1 hok1 => ?_
  obtain ⟨rfl, rfl, rfl⟩ := hR
  simp +decide -implicitDefEqProofs only [stp,code_seq,evWanted,evOp,val,absV,evBin,evConv,evBuiltin,cmpInt,vals,partsOf,isAggD,cellsOf,isAggV,Nat.reduceEqDiff,Nat.reduceLT,Nat.reduceBEq,Nat.reduceBNe,reduceCtorEq,if_true,if_false,reduceIte,forall_const,IntKind.bits,IntKind.signed,eq_self_iff_true,finalOf,resultOf,cellsGood,AC.isCell,senv_mem,lift, bld,spliceAll,allFields,places,splice,Nat.reduceAdd,Nat.reduceSub,Nat.reduceMul,Nat.reduceMod,Nat.reduceLeDiff,List.range,List.range.loop,pfind, ltyA, lenv_mem, none1, -code_seq]
  rw [code_seq]
  have h12 : pickV l At (Int.toNat 12) < 12 := pickV_lt (by decide)
  obtain ⟨D, hD⟩ : ∃ D, (ix, some (AObj.cells 54 [x, .int .i64 ((At + 1 : Nat) : Int)])) :: (n, some (AObj.cells 36 [AC.int .i64 0, .str [], .sl0, .int .i64 0, .int .i64 0, .sl0])) :: d = D := ⟨_, rfl⟩
  have hpkD : PK D ix x (At + 1) := by rw [← hD]; exact pk_top
  have hzD : get [D] n = some (.cells 36 [AC.int .i64 0, .str [], .sl0, .int .i64 0, .int .i64 0, .sl0]) := by rw [← hD, get_cons, if_neg (by omega), get_cons, if_pos rfl]
  have hSD : Sets ix n d D := by rw [← hD]; exact ((Sets.refl ix n d).cons (.inr (Nat.le_refl n))).cons (.inl rfl)
  rw [hD] at hl1 ⊢
  refine code_cutR (fun sl d' n' => sl.nt = 102 ∧ d' = D ∧ n' = n + 1 ∧ sl.get 0 = .c (.ptr ix 0) ∧ sl.get 1 = .c (.int .i64 dp) ∧ sl.get 4 = .c (.ptr n 0) ∧ ∃ k : Nat, k < 12 ∧ (dp = 0 → k < 5) ∧ sl.get 5 = .c (.int .i64 k)) ?_ ?_
  · intro Q' hQ'
    by_cases h1 : (dp : Int) < 1
    · have htm : ((pickV l At (Int.toNat 12) : Nat) : Int).tmod 5 = ((pickV l At (Int.toNat 12) % 5 : Nat) : Int) := by rw [Int.tmod_eq_emod_of_nonneg (by omega)]; omega
      simp +decide -implicitDefEqProofs only [stp,code_seq,evWanted,evOp,val,absV,evBin,evConv,evBuiltin,cmpInt,vals,partsOf,isAggD,cellsOf,isAggV,Nat.reduceEqDiff,Nat.reduceLT,Nat.reduceBEq,Nat.reduceBNe,reduceCtorEq,if_true,if_false,reduceIte,forall_const,IntKind.bits,IntKind.signed,eq_self_iff_true,finalOf,resultOf,cellsGood,AC.isCell,senv_mem,lift, bld,spliceAll,allFields,places,splice,Nat.reduceAdd,Nat.reduceSub,Nat.reduceMul,Nat.reduceMod,Nat.reduceLeDiff,List.range,List.range.loop,pfind, ltyA, lenv_mem, none1, h1, htm]
      refine hQ' _ _ _ ⟨by simp only [nt_put], rfl, rfl, ?_⟩
      simp +decide -implicitDefEqProofs only [stp,code_seq,evWanted,evOp,val,absV,evBin,evConv,evBuiltin,cmpInt,vals,partsOf,isAggD,cellsOf,isAggV,Nat.reduceEqDiff,Nat.reduceLT,Nat.reduceBEq,Nat.reduceBNe,reduceCtorEq,if_true,if_false,reduceIte,forall_const,IntKind.bits,IntKind.signed,eq_self_iff_true,finalOf,resultOf,cellsGood,AC.isCell,senv_mem,lift]
      exact ⟨_, by omega, fun _ => by omega, rfl⟩
    · simp +decide -implicitDefEqProofs only [stp,code_seq,evWanted,evOp,val,absV,evBin,evConv,evBuiltin,cmpInt,vals,partsOf,isAggD,cellsOf,isAggV,Nat.reduceEqDiff,Nat.reduceLT,Nat.reduceBEq,Nat.reduceBNe,reduceCtorEq,if_true,if_false,reduceIte,forall_const,IntKind.bits,IntKind.signed,eq_self_iff_true,finalOf,resultOf,cellsGood,AC.isCell,senv_mem,lift, bld,spliceAll,allFields,places,splice,Nat.reduceAdd,Nat.reduceSub,Nat.reduceMul,Nat.reduceMod,Nat.reduceLeDiff,List.range,List.range.loop,pfind, ltyA, lenv_mem, none1, h1]
      refine hQ' _ _ _ ⟨by simp only [nt_put], rfl, rfl, ?_⟩
      simp +decide -implicitDefEqProofs only [stp,code_seq,evWanted,evOp,val,absV,evBin,evConv,evBuiltin,cmpInt,vals,partsOf,isAggD,cellsOf,isAggV,Nat.reduceEqDiff,Nat.reduceLT,Nat.reduceBEq,Nat.reduceBNe,reduceCtorEq,if_true,if_false,reduceIte,forall_const,IntKind.bits,IntKind.signed,eq_self_iff_true,finalOf,resultOf,cellsGood,AC.isCell,senv_mem,lift]
      exact ⟨_, h12, fun h => by omega, rfl⟩
  clear hD
  rintro S D' n' ⟨hnt, rfl, rfl, g0, g1, g4, k, hk12, hk5, g5⟩
  have e1 : ¬ n + 1 = ix := by omega
  have e2 : ¬ ix = n + 1 := by omega
  have e3 : ¬ ix = n := by omega
  have e4 : ¬ n + 1 = n := by omega
  have e5 : ¬ n = ix := by omega
  have t5 : (0 : Int) < 5 := by omega
  by_cases c1 : (k : Int) < 2
  · have c2 : True := trivial
    simp +decide -implicitDefEqProofs only [stp,code_seq,evWanted,evOp,val,absV,evBin,evConv,evBuiltin,cmpInt,vals,partsOf,isAggD,cellsOf,isAggV,Nat.reduceEqDiff,Nat.reduceLT,Nat.reduceBEq,Nat.reduceBNe,reduceCtorEq,if_true,if_false,reduceIte,forall_const,IntKind.bits,IntKind.signed,eq_self_iff_true,finalOf,resultOf,cellsGood,AC.isCell,senv_mem,lift, bld,spliceAll,allFields,places,splice,Nat.reduceAdd,Nat.reduceSub,Nat.reduceMul,Nat.reduceMod,Nat.reduceLeDiff,List.range,List.range.loop,pfind, ltyA, lenv_mem, none1, hnt, g0, g1, g4, g5, c1, c2]
    refine call_mono (pick_ok hx (At := At + 1) (show PK (_ :: D') ix x (At + 1) by rw [PK, get_cons, if_neg e1]; exact hpkD) (by omega) (by omega) (by omega)) fun v d2 n2 hR hl2 hle2 hok2 => ?_
    obtain ⟨rfl, rfl, rfl⟩ := hR
    have hp5 : pickV l (At + 1) (Int.toNat 5) < 5 := pickV_lt (by decide)
    obtain ⟨t, ht1, ht2⟩ := refs5 _ hp5
    have hp0 : (0 : Int) ≤ ((pickV l (At + 1) (Int.toNat 5) : Nat) : Int) := by omega
    have hp1 : ((pickV l (At + 1) (Int.toNat 5) : Nat) : Int) < ((5 : Nat) : Int) := by omega
    simp +decide -implicitDefEqProofs only [stp,code_seq,evWanted,evOp,val,absV,evBin,evConv,evBuiltin,cmpInt,vals,partsOf,isAggD,cellsOf,isAggV,Nat.reduceEqDiff,Nat.reduceLT,Nat.reduceBEq,Nat.reduceBNe,reduceCtorEq,if_true,if_false,reduceIte,forall_const,IntKind.bits,IntKind.signed,eq_self_iff_true,finalOf,resultOf,cellsGood,AC.isCell,senv_mem,lift, bld,spliceAll,allFields,places,splice,Nat.reduceAdd,Nat.reduceSub,Nat.reduceMul,Nat.reduceMod,Nat.reduceLeDiff,List.range,List.range.loop,pfind, ltyA, lenv_mem, none1, hnt, g0, g1, g4, g5, hp0, hp1, Int.toNat_natCast, ht1, e1, e2, e3, e4, e5, hzD]
    refine hQ _ _ _ _ (.agg [.int .i64 4, .str t, .sl0, .int .i64 0, .int .i64 0, .sl0]) (by simp) ?_ ⟨.mk 4 t [] 0 0 [], _, At + 1 + 1, rfl, ?_, (ht2.2.2), rfl, rfl, ?_, by omega, ?_⟩
    · simp +decide -implicitDefEqProofs only [stp,code_seq,evWanted,evOp,val,absV,evBin,evConv,evBuiltin,cmpInt,vals,partsOf,isAggD,cellsOf,isAggV,Nat.reduceEqDiff,Nat.reduceLT,Nat.reduceBEq,Nat.reduceBNe,reduceCtorEq,if_true,if_false,reduceIte,forall_const,IntKind.bits,IntKind.signed,eq_self_iff_true,finalOf,resultOf,cellsGood,AC.isCell,senv_mem,lift, bld,spliceAll,allFields,places,splice,Nat.reduceAdd,Nat.reduceSub,Nat.reduceMul,Nat.reduceMod,Nat.reduceLeDiff,List.range,List.range.loop,pfind, ltyA, Tryz.f20, hnt, g4]
    · simp [TreeAt, isEx, isInts, sb_refl]
    · rw [PK, get_cons, if_neg e5]; exact pk_top
    · exact ((hSD.cons (.inr (by omega))).cons (.inl rfl)).cons (.inr (Nat.le_refl n))
  by_cases c2 : ((k : Int) == 2) = true
  · skip
    simp +decide -implicitDefEqProofs only [stp,code_seq,evWanted,evOp,val,absV,evBin,evConv,evBuiltin,cmpInt,vals,partsOf,isAggD,cellsOf,isAggV,Nat.reduceEqDiff,Nat.reduceLT,Nat.reduceBEq,Nat.reduceBNe,reduceCtorEq,if_true,if_false,reduceIte,forall_const,IntKind.bits,IntKind.signed,eq_self_iff_true,finalOf,resultOf,cellsGood,AC.isCell,senv_mem,lift, bld,spliceAll,allFields,places,splice,Nat.reduceAdd,Nat.reduceSub,Nat.reduceMul,Nat.reduceMod,Nat.reduceLeDiff,List.range,List.range.loop,pfind, ltyA, lenv_mem, none1, hnt, g0, g1, g4, g5, c1, c2]
    refine call_mono (pick_ok hx (At := At + 1) (show PK (_ :: D') ix x (At + 1) by rw [PK, get_cons, if_neg e1]; exact hpkD) (by omega) (by omega) (by omega)) fun v d2 n2 hR hl2 hle2 hok2 => ?_
    obtain ⟨rfl, rfl, rfl⟩ := hR
    have hp5 : pickV l (At + 1) (Int.toNat 5) < 5 := pickV_lt (by decide)
    obtain ⟨t, ht1, ht2⟩ := folds5 _ hp5
    have hp0 : (0 : Int) ≤ ((pickV l (At + 1) (Int.toNat 5) : Nat) : Int) := by omega
    have hp1 : ((pickV l (At + 1) (Int.toNat 5) : Nat) : Int) < ((5 : Nat) : Int) := by omega
    simp +decide -implicitDefEqProofs only [stp,code_seq,evWanted,evOp,val,absV,evBin,evConv,evBuiltin,cmpInt,vals,partsOf,isAggD,cellsOf,isAggV,Nat.reduceEqDiff,Nat.reduceLT,Nat.reduceBEq,Nat.reduceBNe,reduceCtorEq,if_true,if_false,reduceIte,forall_const,IntKind.bits,IntKind.signed,eq_self_iff_true,finalOf,resultOf,cellsGood,AC.isCell,senv_mem,lift, bld,spliceAll,allFields,places,splice,Nat.reduceAdd,Nat.reduceSub,Nat.reduceMul,Nat.reduceMod,Nat.reduceLeDiff,List.range,List.range.loop,pfind, ltyA, lenv_mem, none1, hnt, g0, g1, g4, g5, hp0, hp1, Int.toNat_natCast, ht1, e1, e2, e3, e4, e5, hzD]
    refine hQ _ _ _ _ (.agg [.int .i64 5, .str t, .sl0, .int .i64 0, .int .i64 0, .sl0]) (by simp) ?_ ⟨.mk 5 t [] 0 0 [], _, At + 1 + 1, rfl, ?_, ht2, rfl, rfl, ?_, by omega, ?_⟩
    · simp +decide -implicitDefEqProofs only [stp,code_seq,evWanted,evOp,val,absV,evBin,evConv,evBuiltin,cmpInt,vals,partsOf,isAggD,cellsOf,isAggV,Nat.reduceEqDiff,Nat.reduceLT,Nat.reduceBEq,Nat.reduceBNe,reduceCtorEq,if_true,if_false,reduceIte,forall_const,IntKind.bits,IntKind.signed,eq_self_iff_true,finalOf,resultOf,cellsGood,AC.isCell,senv_mem,lift, bld,spliceAll,allFields,places,splice,Nat.reduceAdd,Nat.reduceSub,Nat.reduceMul,Nat.reduceMod,Nat.reduceLeDiff,List.range,List.range.loop,pfind, ltyA, Tryz.f20, hnt, g4]
    · simp [TreeAt, isEx, isInts, sb_refl]
    · rw [PK, get_cons, if_neg e5]; exact pk_top
    · exact ((hSD.cons (.inr (by omega))).cons (.inl rfl)).cons (.inr (Nat.le_refl n))
  have c2 : ((k : Int) == 2) = false := by simpa using c2
  by_cases c3 : ((k : Int) == 3) = true
  · simp +decide -implicitDefEqProofs only [stp,code_seq,evWanted,evOp,val,absV,evBin,evConv,evBuiltin,cmpInt,vals,partsOf,isAggD,cellsOf,isAggV,Nat.reduceEqDiff,Nat.reduceLT,Nat.reduceBEq,Nat.reduceBNe,reduceCtorEq,if_true,if_false,reduceIte,forall_const,IntKind.bits,IntKind.signed,eq_self_iff_true,finalOf,resultOf,cellsGood,AC.isCell,senv_mem,lift, bld,spliceAll,allFields,places,splice,Nat.reduceAdd,Nat.reduceSub,Nat.reduceMul,Nat.reduceMod,Nat.reduceLeDiff,List.range,List.range.loop,pfind, ltyA, lenv_mem, none1, hnt, g0, g1, g4, g5, c1, c2, c3]
    obtain ⟨p5, hp5⟩ : ∃ p, pickV l (At + 1) (Int.toNat 5) = p := ⟨_, rfl⟩
    obtain ⟨p4, hp4⟩ : ∃ p, pickV l (At + 1 + 1) (Int.toNat 4) = p := ⟨_, rfl⟩
    obtain ⟨p2, hp2⟩ : ∃ p, pickV l (At + 1 + 1 + 1) (Int.toNat 2) = p := ⟨_, rfl⟩
    have q5 : p5 < 5 := hp5 ▸ pickV_lt (by decide)
    have q2 : p2 < 2 := hp2 ▸ pickV_lt (by decide)
    have hP5 : ∀ B n, get ([] :: B) ix = some (.cells 54 [x, .int .i64 ((At + 1 : Nat) : Int)]) → callPick l x ix 19 [.c (.ptr ix 0), .c (.int .i64 5)] B [] n = some (.c (.int .i64 p5), [(ix, some (.cells 54 [x, .int .i64 ((At + 1 + 1 : Nat) : Int)]))], n) := fun B n h => by rw [callPick_eq h (by omega) (by omega) (by omega), hp5]
    have hP4 : ∀ B n, get ([] :: B) ix = some (.cells 54 [x, .int .i64 ((At + 1 + 1 : Nat) : Int)]) → callPick l x ix 19 [.c (.ptr ix 0), .c (.int .i64 4)] B [] n = some (.c (.int .i64 p4), [(ix, some (.cells 54 [x, .int .i64 ((At + 1 + 1 + 1 : Nat) : Int)]))], n) := fun B n h => by rw [callPick_eq h (by omega) (by omega) (by omega), hp4]
    have hP2 : ∀ B n, get ([] :: B) ix = some (.cells 54 [x, .int .i64 ((At + 1 + 1 + 1 : Nat) : Int)]) → callPick l x ix 19 [.c (.ptr ix 0), .c (.int .i64 2)] B [] n = some (.c (.int .i64 p2), [(ix, some (.cells 54 [x, .int .i64 ((At + 1 + 1 + 1 + 1 : Nat) : Int)]))], n) := fun B n h => by rw [callPick_eq h (by omega) (by omega) (by omega), hp2]
    obtain ⟨z, hz⟩ := ints5 p5 q5
    have hp0 : (0 : Int) ≤ (p5 : Int) := by omega
    have hp1 : (p5 : Int) < ((5 : Nat) : Int) := by omega
    have hwq : IntKind.i64.wrap (1 + (p2 : Int)) = ((p2 + 1 : Nat) : Int) := by rw [wrap_id (by omega) (by omega)]; omega
    have hs0 : (0 : Int) ≤ ((p2 + 1 : Nat) : Int) := by omega
    have hs1 : ((p2 + 1 : Nat) : Int) ≤ ((2 : Nat) : Int) := by omega
    have e6 : (ix == n + 1) = false := by simpa using e2
    have e7 : (ix == n) = false := by simpa using e3
    have e8 : ¬ n + 1 + 1 = ix := by omega
    have e9 : (ix == n + 1 + 1) = false := by simp; omega
    have e10 : ¬ n + 1 + 1 = n := by omega
    have e11 : ¬ n + 1 = n + 1 + 1 := by omega
    have e12 : ¬ ix = n + 1 + 1 := by omega
    have e13 : ¬ n = n + 1 + 1 := by omega
    have e14 : n ≤ n + 1 + 1 := by omega
    have hpkG : get [D'] ix = some (.cells 54 [x, .int .i64 ((At + 1 : Nat) : Int)]) := hpkD
    apply code_drawnH lenv_ok (callPick_ok (ix := ix) hx) (by decide) _ (by rfl) [[ix, ix, ix], [], [], [ix, ix], [ix, ix], [], [], [ix], [ix], [], [], [], [], [], []]
    · simp +decide -implicitDefEqProofs only [stp,code_seq,evWanted,evOp,val,absV,evBin,evConv,evBuiltin,cmpInt,vals,partsOf,isAggD,cellsOf,isAggV,Nat.reduceEqDiff,Nat.reduceLT,Nat.reduceBEq,Nat.reduceBNe,reduceCtorEq,if_true,if_false,reduceIte,forall_const,IntKind.bits,IntKind.signed,eq_self_iff_true,finalOf,resultOf,cellsGood,AC.isCell,senv_mem,lift, flat,d_nil,d_cons,d_true,d_false,d_some,d_some1,slotsAt_get,slotsAt_nt,get_mk_cons,get_mk,wrs_nil,wrs_cons,wrs_none,get_heapAt,get_seen_nil,get_seen_cons,get_seen_one,List.cons_append,List.nil_append,Nat.reduceSub,Nat.reduceAdd,Nat.add_one_sub_one,bitOf, bld,spliceAll,allFields,places,splice,Nat.reduceAdd,Nat.reduceSub,Nat.reduceMul,Nat.reduceMod,Nat.reduceLeDiff,List.range,List.range.loop,pfind, ltyA, lenv_mem, hnt, g0, g1, g4, g5, hP5, hP4, hP2, hpkG, hp0, hp1, hz, hwq, hs0, hs1, Int.toNat_natCast, e1, e2, e3, e4, e5, e8, e10, e11, e12, hzD]
      rfl
    · have w1 : ix < n + 1 := by omega
      have w2 : ix < n + 1 + 1 := by omega
      simp +decide [laters, laterIds, List.filter_cons, w1, w2]
    · simp [subAll]
    · simp +decide -implicitDefEqProofs only [stp,code_seq,evWanted,evOp,val,absV,evBin,evConv,evBuiltin,cmpInt,vals,partsOf,isAggD,cellsOf,isAggV,Nat.reduceEqDiff,Nat.reduceLT,Nat.reduceBEq,Nat.reduceBNe,reduceCtorEq,if_true,if_false,reduceIte,forall_const,IntKind.bits,IntKind.signed,eq_self_iff_true,finalOf,resultOf,cellsGood,AC.isCell,senv_mem,lift, flat,h_nil,h_cons,h_true,h_false,h_some,h_some1,slotsAt_get,slotsAt_nt,get_mk_cons,get_mk,wrs_nil,wrs_cons,wrs_none,h_heap,get_seen_nil,get_seen_cons,get_seen_one,List.cons_append,List.nil_append,Nat.reduceSub,Nat.reduceAdd,Nat.add_one_sub_one,bitOf,List.getD_cons_zero,List.getD_cons_succ,List.any_cons,List.any_nil,Bool.or_false,Bool.or_self, bld,spliceAll,allFields,places,splice,Nat.reduceAdd,Nat.reduceSub,Nat.reduceMul,Nat.reduceMod,Nat.reduceLeDiff,List.range,List.range.loop,pfind, ltyA, lenv_mem, hnt, g0, g1, g4, g5, hP5, hP4, hP2, hpkG, hp0, hp1, hz, hwq, hs0, hs1, Int.toNat_natCast, e1, e2, e3, e4, e5, e6, e7, e8, e9, e10, e11, e12, hzD]
      rfl
    · simp +decide [laters, laterIds, subAll, subIds]
    · simp +decide -implicitDefEqProofs only [stp,code_seq,evWanted,evOp,val,absV,evBin,evConv,evBuiltin,cmpInt,vals,partsOf,isAggD,cellsOf,isAggV,Nat.reduceEqDiff,Nat.reduceLT,Nat.reduceBEq,Nat.reduceBNe,reduceCtorEq,if_true,if_false,reduceIte,forall_const,IntKind.bits,IntKind.signed,eq_self_iff_true,finalOf,resultOf,cellsGood,AC.isCell,senv_mem,lift, flat,h_nil,h_cons,h_true,h_false,h_some,h_some1,slotsAt_get,slotsAt_nt,get_mk_cons,get_mk,wrs_nil,wrs_cons,wrs_none,h_heap,get_seen_nil,get_seen_cons,get_seen_one,List.cons_append,List.nil_append,Nat.reduceSub,Nat.reduceAdd,Nat.add_one_sub_one,bitOf,List.getD_cons_zero,List.getD_cons_succ,List.any_cons,List.any_nil,Bool.or_false,Bool.or_self, ltyA, lenv_mem, none1, hnt, g0, g1, g4, g5]
      refine hQ _ _ _ _ (.agg [.int .i64 6, .str [], .sl (n + 1 + 1) (p2 + 1), .int .i64 0, .int .i64 0, .sl0]) (by simp) ?_ ⟨.mk 6 [] ([z, IntKind.i64.wrap (97 + p4)].take (p2 + 1)) 0 0 [], _, At + 1 + 1 + 1 + 1, rfl, ?_, ?_, rfl, rfl, ?_, by omega, ?_⟩
      · simp +decide -implicitDefEqProofs only [stp,code_seq,evWanted,evOp,val,absV,evBin,evConv,evBuiltin,cmpInt,vals,partsOf,isAggD,cellsOf,isAggV,Nat.reduceEqDiff,Nat.reduceLT,Nat.reduceBEq,Nat.reduceBNe,reduceCtorEq,if_true,if_false,reduceIte,forall_const,IntKind.bits,IntKind.signed,eq_self_iff_true,finalOf,resultOf,cellsGood,AC.isCell,senv_mem,lift, flat,h_nil,h_cons,h_true,h_false,h_some,h_some1,slotsAt_get,slotsAt_nt,get_mk_cons,get_mk,wrs_nil,wrs_cons,wrs_none,h_heap,get_seen_nil,get_seen_cons,get_seen_one,List.cons_append,List.nil_append,Nat.reduceSub,Nat.reduceAdd,Nat.add_one_sub_one,bitOf,List.getD_cons_zero,List.getD_cons_succ,List.any_cons,List.any_nil,Bool.or_false,Bool.or_self, bld,spliceAll,allFields,places,splice,Nat.reduceAdd,Nat.reduceSub,Nat.reduceMul,Nat.reduceMod,Nat.reduceLeDiff,List.range,List.range.loop,pfind, ltyA, Tryz.f20, hnt, g4]
      · have hq2 : p2 = 0 ∨ p2 = 1 := by omega
        rcases hq2 with hq2 | hq2 <;> simp [TreeAt, isEx, isInts, isIntsC, get_newOnly, get_cons, e1, e2, e3, e4, e5, e8, e10, e11, e12, e13, e14, sb_refl, hq2]
      · have hq2 : p2 = 0 ∨ p2 = 1 := by omega
        rcases hq2 with hq2 | hq2 <;> simp [wfEx, wfAll, hq2]
      · rw [PK, get_cons, if_neg e5, get_cons, if_pos rfl]
      · refine (Sets.cons ?_ (.inr (Nat.le_refl n)))
        refine (Sets.cons ?_ (.inl rfl))
        refine (Sets.cons ?_ (.inr (by omega)))
        refine (Sets.cons ?_ (.inl rfl))
        refine (Sets.cons ?_ (.inl rfl))
        exact hSD.cons (.inr (by omega))
  have c3 : ((k : Int) == 3) = false := by simpa using c3
  by_cases c4 : ((k : Int) == 4) = true
  · simp +decide -implicitDefEqProofs only [stp,code_seq,evWanted,evOp,val,absV,evBin,evConv,evBuiltin,cmpInt,vals,partsOf,isAggD,cellsOf,isAggV,Nat.reduceEqDiff,Nat.reduceLT,Nat.reduceBEq,Nat.reduceBNe,reduceCtorEq,if_true,if_false,reduceIte,forall_const,IntKind.bits,IntKind.signed,eq_self_iff_true,finalOf,resultOf,cellsGood,AC.isCell,senv_mem,lift, bld,spliceAll,allFields,places,splice,Nat.reduceAdd,Nat.reduceSub,Nat.reduceMul,Nat.reduceMod,Nat.reduceLeDiff,List.range,List.range.loop,pfind, ltyA, lenv_mem, none1, hnt, g0, g1, g4, g5, c1, c2, c3, c4]
    refine call_mono (pick_ok hx hpkD (by omega) (by omega) (by omega)) fun v d2 n2 hR hl2 hle2 hok2 => ?_
    obtain ⟨rfl, rfl, rfl⟩ := hR
    simp +decide -implicitDefEqProofs only [stp,code_seq,evWanted,evOp,val,absV,evBin,evConv,evBuiltin,cmpInt,vals,partsOf,isAggD,cellsOf,isAggV,Nat.reduceEqDiff,Nat.reduceLT,Nat.reduceBEq,Nat.reduceBNe,reduceCtorEq,if_true,if_false,reduceIte,forall_const,IntKind.bits,IntKind.signed,eq_self_iff_true,finalOf,resultOf,cellsGood,AC.isCell,senv_mem,lift, bld,spliceAll,allFields,places,splice,Nat.reduceAdd,Nat.reduceSub,Nat.reduceMul,Nat.reduceMod,Nat.reduceLeDiff,List.range,List.range.loop,pfind, ltyA, lenv_mem, none1, hnt, g0, g1, g4, g5]
    refine call_mono (pick_ok hx pk_top (by omega) (by omega) (by omega)) fun v d3 n3 hR hl3 hle3 hok3 => ?_
    obtain ⟨rfl, rfl, rfl⟩ := hR
    simp +decide -implicitDefEqProofs only [stp,code_seq,evWanted,evOp,val,absV,evBin,evConv,evBuiltin,cmpInt,vals,partsOf,isAggD,cellsOf,isAggV,Nat.reduceEqDiff,Nat.reduceLT,Nat.reduceBEq,Nat.reduceBNe,reduceCtorEq,if_true,if_false,reduceIte,forall_const,IntKind.bits,IntKind.signed,eq_self_iff_true,finalOf,resultOf,cellsGood,AC.isCell,senv_mem,lift, bld,spliceAll,allFields,places,splice,Nat.reduceAdd,Nat.reduceSub,Nat.reduceMul,Nat.reduceMod,Nat.reduceLeDiff,List.range,List.range.loop,pfind, ltyA, lenv_mem, none1, hnt, g0, g1, g4, g5, e1, e2, e3, e4, e5, hzD]
    refine hQ _ _ _ _ (.agg [.int .i64 7, .str [], .sl (n + 1) 2, .int .i64 0, .int .i64 0, .sl0]) (by simp) ?_ ⟨.mk 7 [] [(pickV l (At + 1) (Int.toNat 200) : Nat), IntKind.i64.wrap ((pickV l (At + 1) (Int.toNat 200) : Nat) + (pickV l (At + 1 + 1) (Int.toNat 60) : Nat))] 0 0 [], _, At + 1 + 1 + 1, rfl, ?_, by simp [wfEx, wfAll], rfl, rfl, ?_, by omega, ?_⟩
    · simp +decide -implicitDefEqProofs only [stp,code_seq,evWanted,evOp,val,absV,evBin,evConv,evBuiltin,cmpInt,vals,partsOf,isAggD,cellsOf,isAggV,Nat.reduceEqDiff,Nat.reduceLT,Nat.reduceBEq,Nat.reduceBNe,reduceCtorEq,if_true,if_false,reduceIte,forall_const,IntKind.bits,IntKind.signed,eq_self_iff_true,finalOf,resultOf,cellsGood,AC.isCell,senv_mem,lift, bld,spliceAll,allFields,places,splice,Nat.reduceAdd,Nat.reduceSub,Nat.reduceMul,Nat.reduceMod,Nat.reduceLeDiff,List.range,List.range.loop,pfind, ltyA, Tryz.f20, hnt, g4]
    · simp [TreeAt, isEx, isInts, isIntsC, get_newOnly, get_cons, e1, e2, e3, e4, e5, sb_refl]
    · rw [PK, get_cons, if_neg e5, get_cons, if_neg e1]; exact pk_top
    · exact (((hSD.cons (.inl rfl)).cons (.inl rfl)).cons (.inr (by omega))).cons (.inr (Nat.le_refl n))
  have c4 : ((k : Int) == 4) = false := by simpa using c4
  obtain ⟨dq, rfl⟩ : ∃ dq, dp = dq + 1 := by
    cases dp with
    | zero =>
      have := hk5 rfl
      have w1 : ¬ (k : Int) = 2 := by simpa using c2
      have w2 : ¬ (k : Int) = 3 := by simpa using c3
      have w3 : ¬ (k : Int) = 4 := by simpa using c4
      omega
    | succ dq => exact ⟨dq, rfl⟩
  have ihq := ih dq rfl
  have hcost : cost (dq + 1) = 3 * cost dq + 4 := rfl
  have hwd : IntKind.i64.wrap (((dq + 1 : Nat) : Int) - 1) = (dq : Int) := by
    have : dq < 100000 := by
      have : ∀ m, m ≤ cost m := fun m => by
        induction m with
        | zero => simp [cost]
        | succ m ih => simp only [cost]; omega
      have := this dq
      omega
    rw [wrap_id (by omega) (by omega)]; omega
  by_cases c5 : (k : Int) < 7
  · simp +decide -implicitDefEqProofs only [stp,code_seq,evWanted,evOp,val,absV,evBin,evConv,evBuiltin,cmpInt,vals,partsOf,isAggD,cellsOf,isAggV,Nat.reduceEqDiff,Nat.reduceLT,Nat.reduceBEq,Nat.reduceBNe,reduceCtorEq,if_true,if_false,reduceIte,forall_const,IntKind.bits,IntKind.signed,eq_self_iff_true,finalOf,resultOf,cellsGood,AC.isCell,senv_mem,lift, bld,spliceAll,allFields,places,splice,Nat.reduceAdd,Nat.reduceSub,Nat.reduceMul,Nat.reduceMod,Nat.reduceLeDiff,List.range,List.range.loop,pfind, ltyA, lenv_mem, none1, hnt, g0, g1, g4, g5, c1, c2, c3, c4, c5]
    refine call_mono (pick_ok hx hpkD (by omega) (by omega) (by omega)) fun v d2 n2 hR hl2 hle2 hok2 => ?_
    obtain ⟨rfl, rfl, rfl⟩ := hR
    obtain ⟨p, hp⟩ : ∃ p, pickV l (At + 1) (Int.toNat 5) = p := ⟨_, rfl⟩
    have hp5 : p < 5 := hp ▸ pickV_lt (by decide)
    rw [hp]
    have hwp : IntKind.i64.wrap ((p : Int) - 1) = (p : Int) - 1 := wrap_id (by omega) (by omega)
    simp +decide -implicitDefEqProofs only [stp,code_seq,evWanted,evOp,val,absV,evBin,evConv,evBuiltin,cmpInt,vals,partsOf,isAggD,cellsOf,isAggV,Nat.reduceEqDiff,Nat.reduceLT,Nat.reduceBEq,Nat.reduceBNe,reduceCtorEq,if_true,if_false,reduceIte,forall_const,IntKind.bits,IntKind.signed,eq_self_iff_true,finalOf,resultOf,cellsGood,AC.isCell,senv_mem,lift, bld,spliceAll,allFields,places,splice,Nat.reduceAdd,Nat.reduceSub,Nat.reduceMul,Nat.reduceMod,Nat.reduceLeDiff,List.range,List.range.loop,pfind, ltyA, lenv_mem, none1, hnt, g0, g1, g4, g5, hwp]
    refine call_mono (pick_ok hx pk_top (by omega) (by omega) (by omega)) fun v d3 n3 hR hl3 hle3 hok3 => ?_
    obtain ⟨rfl, rfl, rfl⟩ := hR
    obtain ⟨q, hq⟩ : ∃ q, pickV l (At + 1 + 1) (Int.toNat 3) = q := ⟨_, rfl⟩
    have hq3 : q < 3 := hq ▸ pickV_lt (by decide)
    rw [hq]
    obtain ⟨mx, hmx, hmxv⟩ : ∃ mx : Int, maxInts .i64 ((p : Int) - 1) [.c (.int .i64 0)] = some mx ∧ mx = if (0 : Int) > (p : Int) - 1 then 0 else (p : Int) - 1 := ⟨_, rfl, rfl⟩
    obtain ⟨mn, hmn, hmnv⟩ : ∃ mn : Int, minInts .i64 (q : Int) [.c (.int .i64 mx)] = some mn ∧ mn = if mx < (q : Int) then mx else (q : Int) := ⟨_, rfl, rfl⟩
    simp +decide -implicitDefEqProofs only [stp,code_seq,evWanted,evOp,val,absV,evBin,evConv,evBuiltin,cmpInt,vals,partsOf,isAggD,cellsOf,isAggV,Nat.reduceEqDiff,Nat.reduceLT,Nat.reduceBEq,Nat.reduceBNe,reduceCtorEq,if_true,if_false,reduceIte,forall_const,IntKind.bits,IntKind.signed,eq_self_iff_true,finalOf,resultOf,cellsGood,AC.isCell,senv_mem,lift, bld,spliceAll,allFields,places,splice,Nat.reduceAdd,Nat.reduceSub,Nat.reduceMul,Nat.reduceMod,Nat.reduceLeDiff,List.range,List.range.loop,pfind, ltyA, lenv_mem, none1, hnt, g0, g1, g4, g5, hmx, hmn, hwd]
    refine call_mono (ihq B0 _ _ (At + 1 + 1 + 1) pk_top (by omega)) fun v d4 n4 hR hl4 hle4 hok4 => ?_
    obtain ⟨e', cs', At', rfl, htr, hwe, hc6, hcg, hpk4, hAt4, hS4⟩ := hR
    have hz4 : get [d4] n = some (.cells 36 [AC.int .i64 0, .str [], .sl0, .int .i64 0, .int .i64 0, .sl0]) := by
      rw [hS4.keeps n (by omega) (by omega), get_cons, if_neg e3, get_cons, if_neg e3]; exact hzD
    have e6 : ¬ n4 = n := by omega
    have e7 : ¬ n4 = ix := by omega
    have e8 : ¬ n = n4 := by omega
    have hg6 : cs'.all AC.isCell = true := hcg
    simp +decide -implicitDefEqProofs only [stp,code_seq,evWanted,evOp,val,absV,evBin,evConv,evBuiltin,cmpInt,vals,partsOf,isAggD,cellsOf,isAggV,Nat.reduceEqDiff,Nat.reduceLT,Nat.reduceBEq,Nat.reduceBNe,reduceCtorEq,if_true,if_false,reduceIte,forall_const,IntKind.bits,IntKind.signed,eq_self_iff_true,finalOf,resultOf,cellsGood,AC.isCell,senv_mem,lift, bld,spliceAll,allFields,places,splice,Nat.reduceAdd,Nat.reduceSub,Nat.reduceMul,Nat.reduceMod,Nat.reduceLeDiff,List.range,List.range.loop,pfind, ltyA, lenv_mem, none1, hnt, g0, g1, g4, g5, hc6, hg6, hz4, e6, e7, e8]
    refine hQ _ _ _ _ (.agg [.int .i64 3, .str [], .sl0, .int .i64 mn, .int .i64 ((p : Int) - 1), .sl n4 1]) (by simp) ?_ ⟨.mk 3 [] [] mn ((p : Int) - 1) [e'], _, At', rfl, ?_, ?_, rfl, rfl, ?_, by omega, ?_⟩
    · simp +decide -implicitDefEqProofs only [stp,code_seq,evWanted,evOp,val,absV,evBin,evConv,evBuiltin,cmpInt,vals,partsOf,isAggD,cellsOf,isAggV,Nat.reduceEqDiff,Nat.reduceLT,Nat.reduceBEq,Nat.reduceBNe,reduceCtorEq,if_true,if_false,reduceIte,forall_const,IntKind.bits,IntKind.signed,eq_self_iff_true,finalOf,resultOf,cellsGood,AC.isCell,senv_mem,lift, bld,spliceAll,allFields,places,splice,Nat.reduceAdd,Nat.reduceSub,Nat.reduceMul,Nat.reduceMod,Nat.reduceLeDiff,List.range,List.range.loop,pfind, ltyA, Tryz.f20, hnt, g4]
    · have hk' := htr.keep (n1 := n) (d' := (n, some (AObj.cells 36 [.int .i64 3, .str [], .sl0, .int .i64 mn, .int .i64 ((p : Int) - 1), .sl n4 1])) :: (n4, some (AObj.cells 36 cs')) :: d4) hl4 (fun i h1 h2 => by rw [get_cons, if_neg (by omega), get_cons, if_neg (by omega)]) (by omega)
      unfold TreeAt at hk' ⊢
      have hn4 : n ≤ n4 := by omega
      simp [isEx, isInts, isKids, get_newOnly, get_cons, e6, e7, e8, hn4, sb_refl, List.take_of_length_le (show cs'.length ≤ 6 by omega), hk']
    · have hmn0 : 0 ≤ mn := by rw [hmnv, hmxv]; split <;> split <;> omega
      have hmn1 : (p : Int) - 1 = -1 ∨ mn ≤ (p : Int) - 1 := by rw [hmnv, hmxv]; split <;> split <;> omega
      have hmn2 : mn < 1152921504606846976 := by rw [hmnv, hmxv]; split <;> split <;> omega
      simp [wfEx, wfAll, hwe, hmn0, hmn2]
      omega
    · rw [PK, get_cons, if_neg e5, get_cons, if_neg e7]; exact hpk4
    · refine Sets.cons ?_ (.inr (Nat.le_refl n))
      refine Sets.cons ?_ (.inr (by omega))
      exact Sets.trans ((hSD.cons (.inl rfl)).cons (.inl rfl)) hS4 (by omega)
  · obtain ⟨kd, hkd⟩ : ∃ kd : Nat, kd = 1 + k % 2 := ⟨_, rfl⟩
    have htm : (k : Int).tmod 2 = ((k % 2 : Nat) : Int) := by rw [Int.tmod_eq_emod_of_nonneg (by omega)]; omega
    have hwk : IntKind.i64.wrap (1 + ((k % 2 : Nat) : Int)) = (kd : Int) := by rw [wrap_id (by omega) (by omega)]; omega
    simp +decide -implicitDefEqProofs only [stp,code_seq,evWanted,evOp,val,absV,evBin,evConv,evBuiltin,cmpInt,vals,partsOf,isAggD,cellsOf,isAggV,Nat.reduceEqDiff,Nat.reduceLT,Nat.reduceBEq,Nat.reduceBNe,reduceCtorEq,if_true,if_false,reduceIte,forall_const,IntKind.bits,IntKind.signed,eq_self_iff_true,finalOf,resultOf,cellsGood,AC.isCell,senv_mem,lift, bld,spliceAll,allFields,places,splice,Nat.reduceAdd,Nat.reduceSub,Nat.reduceMul,Nat.reduceMod,Nat.reduceLeDiff,List.range,List.range.loop,pfind, ltyA, lenv_mem, none1, hnt, g0, g1, g4, g5, c1, c2, c3, c4, c5, htm, hwk]
    refine call_mono (pick_ok hx (At := At + 1) (show PK (_ :: _ :: D') ix x (At + 1) by rw [PK, get_cons, if_neg e1, get_cons, if_neg e1]; exact hpkD) (by omega) (by omega) (by omega)) fun v d2 n2 hR hl2 hle2 hok2 => ?_
    obtain ⟨rfl, rfl, rfl⟩ := hR
    obtain ⟨c, hc⟩ : ∃ c, pickV l (At + 1) (Int.toNat 2) = c := ⟨_, rfl⟩
    have hc2 : c < 2 := hc ▸ pickV_lt (by decide)
    have hw2 : IntKind.i64.wrap (2 + (c : Int)) = ((2 + c : Nat) : Int) := by rw [wrap_id (by omega) (by omega)]; omega
    rw [hc]
    simp +decide -implicitDefEqProofs only [stp,code_seq,evWanted,evOp,val,absV,evBin,evConv,evBuiltin,cmpInt,vals,partsOf,isAggD,cellsOf,isAggV,Nat.reduceEqDiff,Nat.reduceLT,Nat.reduceBEq,Nat.reduceBNe,reduceCtorEq,if_true,if_false,reduceIte,forall_const,IntKind.bits,IntKind.signed,eq_self_iff_true,finalOf,resultOf,cellsGood,AC.isCell,senv_mem,lift, bld,spliceAll,allFields,places,splice,Nat.reduceAdd,Nat.reduceSub,Nat.reduceMul,Nat.reduceMod,Nat.reduceLeDiff,List.range,List.range.loop,pfind, ltyA, lenv_mem, none1, hnt, g0, g1, g4, g5, hw2]
    refine code_loop lenv_ok none1_ok (fun q sl d' n' => sl.nt = 102 ∧ n + 2 ≤ n' ∧ Sets ix n d d' ∧ sl.get 0 = .c (.ptr ix 0) ∧ sl.get 1 = .c (.int .i64 ((dq + 1 : Nat) : Int)) ∧ sl.get 4 = .c (.ptr n 0) ∧ sl.get 8 = .c (.ptr (n + 1) 0) ∧ sl.get 9 = .c (.int .i64 q) ∧ get [d'] n = some (.cells 36 [AC.int .i64 0, .str [], .sl0, .int .i64 0, .int .i64 0, .sl0]) ∧
      ∃ (At' : Nat) (es : List Ex) (K : AC), At' + q * cost dq ≤ At + 2 + 3 * cost dq ∧ PK d' ix x At' ∧ get [d'] (n + 1) = some (.cells 36 [.int .i64 kd, .str [], .sl0, .int .i64 0, .int .i64 0, K]) ∧ KidsT n d' K es ∧ (∀ e ∈ es, wfEx NMs e = true) ∧ es.length + q ≤ 3) (2 + c) ?_ ?_
    · refine ⟨by simp only [nt_put, hnt], by omega, (((hSD.cons (.inr (by omega))).cons (.inr (by omega))).cons (.inl rfl)), ?_⟩
      simp +decide -implicitDefEqProofs only [stp,code_seq,evWanted,evOp,val,absV,evBin,evConv,evBuiltin,cmpInt,vals,partsOf,isAggD,cellsOf,isAggV,Nat.reduceEqDiff,Nat.reduceLT,Nat.reduceBEq,Nat.reduceBNe,reduceCtorEq,if_true,if_false,reduceIte,forall_const,IntKind.bits,IntKind.signed,eq_self_iff_true,finalOf,resultOf,cellsGood,AC.isCell,senv_mem,lift, hnt, g0, g1, g4, e1, e2, e3, e4, e5]
      refine ⟨hzD, At + 1 + 1, [], .sl0, ?_, pk_top, rfl, .inl ⟨rfl, rfl⟩, by simp, by simp; omega⟩
      have : c = 0 ∨ c = 1 := by omega
      rcases this with rfl | rfl <;> omega
    clear hnt g0 g1 g4 g5 hzD hSD hpkD hl1 hl2 hle2 hok2
    rintro q sl d1 n1 ⟨hnt, hn1, hS1, g0, g1, g4, g8, g9, hz1, At', es, K, hAt', hpk1, hj8, hK, hwes, hes3⟩ hl1 hs1 Q' hQ1 hQ2
    by_cases h1 : (q : Int) > 0
    · simp +decide -implicitDefEqProofs only [stp,code_seq,evWanted,evOp,val,absV,evBin,evConv,evBuiltin,cmpInt,vals,partsOf,isAggD,cellsOf,isAggV,Nat.reduceEqDiff,Nat.reduceLT,Nat.reduceBEq,Nat.reduceBNe,reduceCtorEq,if_true,if_false,reduceIte,forall_const,IntKind.bits,IntKind.signed,eq_self_iff_true,finalOf,resultOf,cellsGood,AC.isCell,senv_mem,lift, bld,spliceAll,allFields,places,splice,Nat.reduceAdd,Nat.reduceSub,Nat.reduceMul,Nat.reduceMod,Nat.reduceLeDiff,List.range,List.range.loop,pfind, ltyA, lenv_mem, none1, hnt, g0, g1, g4, g8, g9, h1]
      refine code_anyA lenv_ok ?_
      show AnyA _ _ _ _ 10 _ _ _ _ _
      refine any_take (i := 2) (dt := some 94) rfl (by kernel_rfl) (by kernel_rfl) (by kernel_rfl) rfl rfl (yields_move (v := .c (.ptr ix 0)) rfl (by simp +decide -implicitDefEqProofs only [stp,code_seq,evWanted,evOp,val,absV,evBin,evConv,evBuiltin,cmpInt,vals,partsOf,isAggD,cellsOf,isAggV,Nat.reduceEqDiff,Nat.reduceLT,Nat.reduceBEq,Nat.reduceBNe,reduceCtorEq,if_true,if_false,reduceIte,forall_const,IntKind.bits,IntKind.signed,eq_self_iff_true,finalOf,resultOf,cellsGood,AC.isCell,senv_mem,lift, hnt, g0])) ?_
      refine any_take (i := 3) (dt := some 95) rfl (by kernel_rfl) (by kernel_rfl) (by kernel_rfl) rfl rfl (yields_move (v := .c (.int .i64 ((dq + 1 : Nat) : Int))) rfl (by simp +decide -implicitDefEqProofs only [stp,code_seq,evWanted,evOp,val,absV,evBin,evConv,evBuiltin,cmpInt,vals,partsOf,isAggD,cellsOf,isAggV,Nat.reduceEqDiff,Nat.reduceLT,Nat.reduceBEq,Nat.reduceBNe,reduceCtorEq,if_true,if_false,reduceIte,forall_const,IntKind.bits,IntKind.signed,eq_self_iff_true,finalOf,resultOf,cellsGood,AC.isCell,senv_mem,lift, hnt, g1])) ?_
      refine any_take (i := 4) (dt := some 96) rfl (by kernel_rfl) (by kernel_rfl) (by kernel_rfl) rfl rfl (yields_sub (p := ((dq + 1 : Nat) : Int)) (q := 1) rfl (by simp +decide -implicitDefEqProofs only [stp,code_seq,evWanted,evOp,val,absV,evBin,evConv,evBuiltin,cmpInt,vals,partsOf,isAggD,cellsOf,isAggV,Nat.reduceEqDiff,Nat.reduceLT,Nat.reduceBEq,Nat.reduceBNe,reduceCtorEq,if_true,if_false,reduceIte,forall_const,IntKind.bits,IntKind.signed,eq_self_iff_true,finalOf,resultOf,cellsGood,AC.isCell,senv_mem,lift, hnt]) (by simp +decide -implicitDefEqProofs only [stp,code_seq,evWanted,evOp,val,absV,evBin,evConv,evBuiltin,cmpInt,vals,partsOf,isAggD,cellsOf,isAggV,Nat.reduceEqDiff,Nat.reduceLT,Nat.reduceBEq,Nat.reduceBNe,reduceCtorEq,if_true,if_false,reduceIte,forall_const,IntKind.bits,IntKind.signed,eq_self_iff_true,finalOf,resultOf,cellsGood,AC.isCell,senv_mem,lift])) ?_
      rw [hwd]
      refine any_take (i := 0) (dt := some 92) rfl (by kernel_rfl) (by kernel_rfl) (by kernel_rfl) rfl rfl (yields_field lenv_ok (i := n + 1) (off := 0) rfl (lty36 (mem := mem)) (by simp +decide -implicitDefEqProofs only [stp,code_seq,evWanted,evOp,val,absV,evBin,evConv,evBuiltin,cmpInt,vals,partsOf,isAggD,cellsOf,isAggV,Nat.reduceEqDiff,Nat.reduceLT,Nat.reduceBEq,Nat.reduceBNe,reduceCtorEq,if_true,if_false,reduceIte,forall_const,IntKind.bits,IntKind.signed,eq_self_iff_true,finalOf,resultOf,cellsGood,AC.isCell,senv_mem,lift, hnt, g8]) rfl rfl (lty34 (mem := mem)) (by decide)) ?_
      have hcq : At' + cost dq ≤ 90000 := by
        have : 1 * cost dq ≤ q * cost dq := Nat.mul_le_mul_right _ (by omega)
        omega
      have hq1 : (q - 1) * cost dq + cost dq = q * cost dq := by
        obtain ⟨r, rfl⟩ : ∃ r, q = r + 1 := ⟨q - 1, by omega⟩
        rw [Nat.add_sub_cancel, Nat.succ_mul]
      have hwq : IntKind.i64.wrap ((q : Int) - 1) = ((q - 1 : Nat) : Int) := by rw [wrap_id (by omega) (by omega)]; omega
      rcases hK with ⟨rfl, rfl⟩ | ⟨jk, kcs, hjk, rfl, hne, hgk, hkl, hkg, hkt⟩
      · skip
        refine any_ready lenv_ok none1_ok (rs := [1, 5]) (by kernel_rfl) (by simp) fun i hi => ?_
        have hi : i = 1 ∨ i = 5 := by simpa using hi
        rcases hi with rfl | rfl
        · refine ⟨_, rfl, ?_⟩
          simp +decide -implicitDefEqProofs only [stp,code_seq,evWanted,evOp,val,absV,evBin,evConv,evBuiltin,cmpInt,vals,partsOf,isAggD,cellsOf,isAggV,Nat.reduceEqDiff,Nat.reduceLT,Nat.reduceBEq,Nat.reduceBNe,reduceCtorEq,if_true,if_false,reduceIte,forall_const,IntKind.bits,IntKind.signed,eq_self_iff_true,finalOf,resultOf,cellsGood,AC.isCell,senv_mem,lift, bld,spliceAll,allFields,places,splice,Nat.reduceAdd,Nat.reduceSub,Nat.reduceMul,Nat.reduceMod,Nat.reduceLeDiff,List.range,List.range.loop,pfind, awOps, ltyA, lenv_mem, none1, hnt, hj8]
          refine any_seq lenv_ok none1_ok 5 (List.drop 5 _) rfl (by kernel_rfl) ?_
          simp +decide -implicitDefEqProofs only [stp,code_seq,evWanted,evOp,val,absV,evBin,evConv,evBuiltin,cmpInt,vals,partsOf,isAggD,cellsOf,isAggV,Nat.reduceEqDiff,Nat.reduceLT,Nat.reduceBEq,Nat.reduceBNe,reduceCtorEq,if_true,if_false,reduceIte,forall_const,IntKind.bits,IntKind.signed,eq_self_iff_true,finalOf,resultOf,cellsGood,AC.isCell,senv_mem,lift, bld,spliceAll,allFields,places,splice,Nat.reduceAdd,Nat.reduceSub,Nat.reduceMul,Nat.reduceMod,Nat.reduceLeDiff,List.range,List.range.loop,pfind, awOps, ltyA, lenv_mem, none1, hnt, List.drop_succ_cons, List.drop_zero]
          refine CallsA.mono (ihq B0 _ _ At' hpk1 hcq) fun v d4 n4 hR hl4 hle4 hok4 => ?_
          obtain ⟨e', cs', At2, rfl, htr, hwe, hc6, hcg, hpk4, hAt4, hS4⟩ := hR
          have hj8' := (hS4.keeps (n + 1) (by omega) (by omega)).trans hj8
          have hz4 := (hS4.keeps n (by omega) (by omega)).trans hz1
          have hT6 : List.take 6 cs' = cs' := List.take_of_length_le (by omega)
          have hg6 : cs'.all AC.isCell = true := hcg
          have f1 : ¬ n4 = n + 1 := by omega
          have f2 : ¬ n4 + 1 = n + 1 := by omega
          simp +decide -implicitDefEqProofs only [stp,code_seq,evWanted,evOp,val,absV,evBin,evConv,evBuiltin,cmpInt,vals,partsOf,isAggD,cellsOf,isAggV,Nat.reduceEqDiff,Nat.reduceLT,Nat.reduceBEq,Nat.reduceBNe,reduceCtorEq,if_true,if_false,reduceIte,forall_const,IntKind.bits,IntKind.signed,eq_self_iff_true,finalOf,resultOf,cellsGood,AC.isCell,senv_mem,lift, bld,spliceAll,allFields,places,splice,Nat.reduceAdd,Nat.reduceSub,Nat.reduceMul,Nat.reduceMod,Nat.reduceLeDiff,List.range,List.range.loop,pfind, awOps, ltyA, lenv_mem, none1, hnt, g0, g1, g4, g8, g9, hj8', hT6, hc6, hg6, f1, f2, evAppend, hwq, Bool.true_or, Bool.or_self, hnt]
          refine hQ1 (q - 1) _ _ _ (by omega) ⟨by simp only [nt_put, hnt], by omega, (((Sets.trans hS1 hS4 (by omega)).cons (.inr (by omega))).cons (.inr (by omega))).cons (.inr (by omega)), ?_⟩
          simp +decide -implicitDefEqProofs only [stp,code_seq,evWanted,evOp,val,absV,evBin,evConv,evBuiltin,cmpInt,vals,partsOf,isAggD,cellsOf,isAggV,Nat.reduceEqDiff,Nat.reduceLT,Nat.reduceBEq,Nat.reduceBNe,reduceCtorEq,if_true,if_false,reduceIte,forall_const,IntKind.bits,IntKind.signed,eq_self_iff_true,finalOf,resultOf,cellsGood,AC.isCell,senv_mem,lift, hnt, g0, g1, g4, g8]
          refine ⟨by rw [if_neg (by omega), if_neg (by omega), if_neg (by omega)]; exact hz4, At2, [e'], .sl (n4 + 1) 1, by omega, ?_, rfl, .inr ⟨n4 + 1, cs', by omega, rfl, by simp, ?_, by simp [hc6], hcg, ?_⟩, by simpa using hwe, by simp at hes3 ⊢; omega⟩
          · rw [PK, get_cons, if_neg (by omega), get_cons, if_neg (by omega), get_cons, if_neg (by omega)]; exact hpk4
          · rw [get_cons, if_neg (by omega), get_cons, if_pos rfl]
          · refine isKids_snoc hc6 (isEx_keep (H := [newOnly n1 d4]) (fun i o ho => ?_) htr) [] [] rfl rfl
            rw [get_newOnly] at ho
            split at ho
            · rename_i hi
              have := (hl4 i o ho).1
              rw [get_cons, if_neg (by omega), get_newOnly, if_pos (by omega), get_cons, if_neg (by omega), get_cons, if_neg (by omega), get_cons, if_neg (by omega)]
              exact ho
            · cases ho
        · refine ⟨_, rfl, ?_⟩
          simp +decide -implicitDefEqProofs only [stp,code_seq,evWanted,evOp,val,absV,evBin,evConv,evBuiltin,cmpInt,vals,partsOf,isAggD,cellsOf,isAggV,Nat.reduceEqDiff,Nat.reduceLT,Nat.reduceBEq,Nat.reduceBNe,reduceCtorEq,if_true,if_false,reduceIte,forall_const,IntKind.bits,IntKind.signed,eq_self_iff_true,finalOf,resultOf,cellsGood,AC.isCell,senv_mem,lift, bld,spliceAll,allFields,places,splice,Nat.reduceAdd,Nat.reduceSub,Nat.reduceMul,Nat.reduceMod,Nat.reduceLeDiff,List.range,List.range.loop,pfind, awOps, ltyA, lenv_mem, none1, hnt]
          refine CallsA.mono (ihq B0 _ _ At' hpk1 hcq) fun v d4 n4 hR hl4 hle4 hok4 => ?_
          obtain ⟨e', cs', At2, rfl, htr, hwe, hc6, hcg, hpk4, hAt4, hS4⟩ := hR
          have hj8' := (hS4.keeps (n + 1) (by omega) (by omega)).trans hj8
          have hz4 := (hS4.keeps n (by omega) (by omega)).trans hz1
          have hT6 : List.take 6 cs' = cs' := List.take_of_length_le (by omega)
          have hg6 : cs'.all AC.isCell = true := hcg
          have f1 : ¬ n4 = n + 1 := by omega
          have f2 : ¬ n4 + 1 = n + 1 := by omega
          try simp +decide -implicitDefEqProofs only [stp,code_seq,evWanted,evOp,val,absV,evBin,evConv,evBuiltin,cmpInt,vals,partsOf,isAggD,cellsOf,isAggV,Nat.reduceEqDiff,Nat.reduceLT,Nat.reduceBEq,Nat.reduceBNe,reduceCtorEq,if_true,if_false,reduceIte,forall_const,IntKind.bits,IntKind.signed,eq_self_iff_true,finalOf,resultOf,cellsGood,AC.isCell,senv_mem,lift, bld,spliceAll,allFields,places,splice,Nat.reduceAdd,Nat.reduceSub,Nat.reduceMul,Nat.reduceMod,Nat.reduceLeDiff,List.range,List.range.loop,pfind, awOps, ltyA, lenv_mem, none1]
          refine any_ready lenv_ok none1_ok (rs := [1, 6]) (by kernel_rfl) (by simp) fun i hi => ?_
          have hi : i = 1 ∨ i = 6 := by simpa using hi
          rcases hi with rfl | rfl
          · refine ⟨_, rfl, ?_⟩
            simp +decide -implicitDefEqProofs only [stp,code_seq,evWanted,evOp,val,absV,evBin,evConv,evBuiltin,cmpInt,vals,partsOf,isAggD,cellsOf,isAggV,Nat.reduceEqDiff,Nat.reduceLT,Nat.reduceBEq,Nat.reduceBNe,reduceCtorEq,if_true,if_false,reduceIte,forall_const,IntKind.bits,IntKind.signed,eq_self_iff_true,finalOf,resultOf,cellsGood,AC.isCell,senv_mem,lift, bld,spliceAll,allFields,places,splice,Nat.reduceAdd,Nat.reduceSub,Nat.reduceMul,Nat.reduceMod,Nat.reduceLeDiff,List.range,List.range.loop,pfind, awOps, ltyA, lenv_mem, none1, hnt, hj8']
            refine any_seq lenv_ok none1_ok 6 (List.drop 6 _) rfl (by kernel_rfl) ?_
            simp +decide -implicitDefEqProofs only [stp,code_seq,evWanted,evOp,val,absV,evBin,evConv,evBuiltin,cmpInt,vals,partsOf,isAggD,cellsOf,isAggV,Nat.reduceEqDiff,Nat.reduceLT,Nat.reduceBEq,Nat.reduceBNe,reduceCtorEq,if_true,if_false,reduceIte,forall_const,IntKind.bits,IntKind.signed,eq_self_iff_true,finalOf,resultOf,cellsGood,AC.isCell,senv_mem,lift, bld,spliceAll,allFields,places,splice,Nat.reduceAdd,Nat.reduceSub,Nat.reduceMul,Nat.reduceMod,Nat.reduceLeDiff,List.range,List.range.loop,pfind, awOps, ltyA, lenv_mem, none1, List.drop_succ_cons, List.drop_zero, hnt, g0, g1, g4, g8, g9, hj8', hT6, hc6, hg6, f1, f2, evAppend, hwq, Bool.true_or, Bool.or_self, hnt]
            refine hQ1 (q - 1) _ _ _ (by omega) ⟨by simp only [nt_put, hnt], by omega, (((Sets.trans hS1 hS4 (by omega)).cons (.inr (by omega))).cons (.inr (by omega))).cons (.inr (by omega)), ?_⟩
            simp +decide -implicitDefEqProofs only [stp,code_seq,evWanted,evOp,val,absV,evBin,evConv,evBuiltin,cmpInt,vals,partsOf,isAggD,cellsOf,isAggV,Nat.reduceEqDiff,Nat.reduceLT,Nat.reduceBEq,Nat.reduceBNe,reduceCtorEq,if_true,if_false,reduceIte,forall_const,IntKind.bits,IntKind.signed,eq_self_iff_true,finalOf,resultOf,cellsGood,AC.isCell,senv_mem,lift, hnt, g0, g1, g4, g8]
            refine ⟨by rw [if_neg (by omega), if_neg (by omega), if_neg (by omega)]; exact hz4, At2, [e'], .sl (n4 + 1) 1, by omega, ?_, rfl, .inr ⟨n4 + 1, cs', by omega, rfl, by simp, ?_, by simp [hc6], hcg, ?_⟩, by simpa using hwe, by simp at hes3 ⊢; omega⟩
            · rw [PK, get_cons, if_neg (by omega), get_cons, if_neg (by omega), get_cons, if_neg (by omega)]; exact hpk4
            · rw [get_cons, if_neg (by omega), get_cons, if_pos rfl]
            · refine isKids_snoc hc6 (isEx_keep (H := [newOnly n1 d4]) (fun i o ho => ?_) htr) [] [] rfl rfl
              rw [get_newOnly] at ho
              split at ho
              · rename_i hi
                have := (hl4 i o ho).1
                rw [get_cons, if_neg (by omega), get_newOnly, if_pos (by omega), get_cons, if_neg (by omega), get_cons, if_neg (by omega), get_cons, if_neg (by omega)]
                exact ho
              · cases ho
          · refine ⟨_, rfl, ?_⟩
            simp +decide -implicitDefEqProofs only [stp,code_seq,evWanted,evOp,val,absV,evBin,evConv,evBuiltin,cmpInt,vals,partsOf,isAggD,cellsOf,isAggV,Nat.reduceEqDiff,Nat.reduceLT,Nat.reduceBEq,Nat.reduceBNe,reduceCtorEq,if_true,if_false,reduceIte,forall_const,IntKind.bits,IntKind.signed,eq_self_iff_true,finalOf,resultOf,cellsGood,AC.isCell,senv_mem,lift, bld,spliceAll,allFields,places,splice,Nat.reduceAdd,Nat.reduceSub,Nat.reduceMul,Nat.reduceMod,Nat.reduceLeDiff,List.range,List.range.loop,pfind, awOps, ltyA, lenv_mem, none1, hnt, hc6, hg6]
            refine any_ready lenv_ok none1_ok (rs := [1]) (by kernel_rfl) (by simp) fun i hi => ?_
            have hi : i = 1 := by simpa using hi
            subst hi
            refine ⟨_, rfl, ?_⟩
            simp +decide -implicitDefEqProofs only [stp,code_seq,evWanted,evOp,val,absV,evBin,evConv,evBuiltin,cmpInt,vals,partsOf,isAggD,cellsOf,isAggV,Nat.reduceEqDiff,Nat.reduceLT,Nat.reduceBEq,Nat.reduceBNe,reduceCtorEq,if_true,if_false,reduceIte,forall_const,IntKind.bits,IntKind.signed,eq_self_iff_true,finalOf,resultOf,cellsGood,AC.isCell,senv_mem,lift, bld,spliceAll,allFields,places,splice,Nat.reduceAdd,Nat.reduceSub,Nat.reduceMul,Nat.reduceMod,Nat.reduceLeDiff,List.range,List.range.loop,pfind, awOps, ltyA, lenv_mem, none1, hnt, hj8', f1]
            refine any_seq lenv_ok none1_ok 7 (List.drop 7 _) rfl (by kernel_rfl) ?_
            simp +decide -implicitDefEqProofs only [stp,code_seq,evWanted,evOp,val,absV,evBin,evConv,evBuiltin,cmpInt,vals,partsOf,isAggD,cellsOf,isAggV,Nat.reduceEqDiff,Nat.reduceLT,Nat.reduceBEq,Nat.reduceBNe,reduceCtorEq,if_true,if_false,reduceIte,forall_const,IntKind.bits,IntKind.signed,eq_self_iff_true,finalOf,resultOf,cellsGood,AC.isCell,senv_mem,lift, bld,spliceAll,allFields,places,splice,Nat.reduceAdd,Nat.reduceSub,Nat.reduceMul,Nat.reduceMod,Nat.reduceLeDiff,List.range,List.range.loop,pfind, awOps, ltyA, lenv_mem, none1, List.drop_succ_cons, List.drop_zero, hnt, g0, g1, g4, g8, g9, hj8', hT6, hc6, hg6, f1, f2, evAppend, hwq, Bool.true_or, Bool.or_self, hnt]
            refine hQ1 (q - 1) _ _ _ (by omega) ⟨by simp only [nt_put, hnt], by omega, (((Sets.trans hS1 hS4 (by omega)).cons (.inr (by omega))).cons (.inr (by omega))).cons (.inr (by omega)), ?_⟩
            simp +decide -implicitDefEqProofs only [stp,code_seq,evWanted,evOp,val,absV,evBin,evConv,evBuiltin,cmpInt,vals,partsOf,isAggD,cellsOf,isAggV,Nat.reduceEqDiff,Nat.reduceLT,Nat.reduceBEq,Nat.reduceBNe,reduceCtorEq,if_true,if_false,reduceIte,forall_const,IntKind.bits,IntKind.signed,eq_self_iff_true,finalOf,resultOf,cellsGood,AC.isCell,senv_mem,lift, hnt, g0, g1, g4, g8]
            refine ⟨by rw [if_neg (by omega), if_neg (by omega), if_neg (by omega)]; exact hz4, At2, [e'], .sl (n4 + 1) 1, by omega, ?_, rfl, .inr ⟨n4 + 1, cs', by omega, rfl, by simp, ?_, by simp [hc6], hcg, ?_⟩, by simpa using hwe, by simp at hes3 ⊢; omega⟩
            · rw [PK, get_cons, if_neg (by omega), get_cons, if_neg (by omega), get_cons, if_neg (by omega)]; exact hpk4
            · rw [get_cons, if_neg (by omega), get_cons, if_pos rfl]
            · refine isKids_snoc hc6 (isEx_keep (H := [newOnly n1 d4]) (fun i o ho => ?_) htr) [] [] rfl rfl
              rw [get_newOnly] at ho
              split at ho
              · rename_i hi
                have := (hl4 i o ho).1
                rw [get_cons, if_neg (by omega), get_newOnly, if_pos (by omega), get_cons, if_neg (by omega), get_cons, if_neg (by omega), get_cons, if_neg (by omega)]
                exact ho
              · cases ho
      · skip
        refine any_ready lenv_ok none1_ok (rs := [1, 5]) (by kernel_rfl) (by simp) fun i hi => ?_
        have hi : i = 1 ∨ i = 5 := by simpa using hi
        rcases hi with rfl | rfl
        · refine ⟨_, rfl, ?_⟩
          simp +decide -implicitDefEqProofs only [stp,code_seq,evWanted,evOp,val,absV,evBin,evConv,evBuiltin,cmpInt,vals,partsOf,isAggD,cellsOf,isAggV,Nat.reduceEqDiff,Nat.reduceLT,Nat.reduceBEq,Nat.reduceBNe,reduceCtorEq,if_true,if_false,reduceIte,forall_const,IntKind.bits,IntKind.signed,eq_self_iff_true,finalOf,resultOf,cellsGood,AC.isCell,senv_mem,lift, bld,spliceAll,allFields,places,splice,Nat.reduceAdd,Nat.reduceSub,Nat.reduceMul,Nat.reduceMod,Nat.reduceLeDiff,List.range,List.range.loop,pfind, awOps, ltyA, lenv_mem, none1, hnt, hj8]
          refine any_seq lenv_ok none1_ok 5 (List.drop 5 _) rfl (by kernel_rfl) ?_
          simp +decide -implicitDefEqProofs only [stp,code_seq,evWanted,evOp,val,absV,evBin,evConv,evBuiltin,cmpInt,vals,partsOf,isAggD,cellsOf,isAggV,Nat.reduceEqDiff,Nat.reduceLT,Nat.reduceBEq,Nat.reduceBNe,reduceCtorEq,if_true,if_false,reduceIte,forall_const,IntKind.bits,IntKind.signed,eq_self_iff_true,finalOf,resultOf,cellsGood,AC.isCell,senv_mem,lift, bld,spliceAll,allFields,places,splice,Nat.reduceAdd,Nat.reduceSub,Nat.reduceMul,Nat.reduceMod,Nat.reduceLeDiff,List.range,List.range.loop,pfind, awOps, ltyA, lenv_mem, none1, hnt, List.drop_succ_cons, List.drop_zero]
          refine CallsA.mono (ihq B0 _ _ At' hpk1 hcq) fun v d4 n4 hR hl4 hle4 hok4 => ?_
          obtain ⟨e', cs', At2, rfl, htr, hwe, hc6, hcg, hpk4, hAt4, hS4⟩ := hR
          have hj8' := (hS4.keeps (n + 1) (by omega) (by omega)).trans hj8
          have hz4 := (hS4.keeps n (by omega) (by omega)).trans hz1
          have hT6 : List.take 6 cs' = cs' := List.take_of_length_le (by omega)
          have hg6 : cs'.all AC.isCell = true := hcg
          have f1 : ¬ n4 = n + 1 := by omega
          have f2 : ¬ n4 + 1 = n + 1 := by omega
          have hgk' := (hS4.keeps jk (hl1 jk _ hgk).1 (by omega)).trans hgk
          have f3 : (jk == n4) = false := by have := (hl1 jk _ hgk).1; simp; omega
          have f4 : ¬ jk = n + 1 := by omega
          have f5 : ¬ n4 = jk := by have := (hl1 jk _ hgk).1; omega
          have f6 : ¬ es.length > 100000 := by omega
          simp +decide -implicitDefEqProofs only [stp,code_seq,evWanted,evOp,val,absV,evBin,evConv,evBuiltin,cmpInt,vals,partsOf,isAggD,cellsOf,isAggV,Nat.reduceEqDiff,Nat.reduceLT,Nat.reduceBEq,Nat.reduceBNe,reduceCtorEq,if_true,if_false,reduceIte,forall_const,IntKind.bits,IntKind.signed,eq_self_iff_true,finalOf,resultOf,cellsGood,AC.isCell,senv_mem,lift, bld,spliceAll,allFields,places,splice,Nat.reduceAdd,Nat.reduceSub,Nat.reduceMul,Nat.reduceMod,Nat.reduceLeDiff,List.range,List.range.loop,pfind, awOps, ltyA, lenv_mem, none1, hnt, g0, g1, g4, g8, g9, hj8', hT6, hc6, hg6, f1, f2, evAppend, hwq, Bool.true_or, Bool.or_self, hgk', f3, f4, f5, f6, hkl]
          refine hQ1 (q - 1) _ _ _ (by omega) ⟨by simp only [nt_put, hnt], by omega, ((((Sets.trans hS1 hS4 (by omega)).cons (.inr (by omega))).cons (.inr (by omega))).cons (.inr (by omega))).cons (.inr (by omega)), ?_⟩
          simp +decide -implicitDefEqProofs only [stp,code_seq,evWanted,evOp,val,absV,evBin,evConv,evBuiltin,cmpInt,vals,partsOf,isAggD,cellsOf,isAggV,Nat.reduceEqDiff,Nat.reduceLT,Nat.reduceBEq,Nat.reduceBNe,reduceCtorEq,if_true,if_false,reduceIte,forall_const,IntKind.bits,IntKind.signed,eq_self_iff_true,finalOf,resultOf,cellsGood,AC.isCell,senv_mem,lift, hnt, g0, g1, g4, g8]
          have hjn := (hl1 jk _ hgk).1
          refine ⟨by rw [if_neg (by omega), if_neg (by omega), if_neg (by omega), if_neg (by omega)]; exact hz4, At2, es ++ [e'], .sl (n4 + 1) (es.length + 1), by omega, ?_, rfl, .inr ⟨n4 + 1, kcs ++ cs', by omega, by simp, by simp, ?_, by simp [hc6, hkl]; omega, by simp [hcg, hkg], ?_⟩, ?_, by simp; omega⟩
          · rw [PK, get_cons, if_neg (by omega), get_cons, if_neg (by omega), get_cons, if_neg (by omega), get_cons, if_neg (by omega)]; exact hpk4
          · rw [get_cons, if_neg (by omega), get_cons, if_pos rfl]
          · refine isKids_snoc hc6 (isEx_keep (H := [newOnly n1 d4]) (fun i o ho => ?_) htr) es kcs hkl (isKids_keep (H := [(jk, none) :: newOnly (n + 2) d1]) (fun i o ho => ?_) hkt)
            · rw [get_newOnly] at ho
              split at ho
              · rename_i hi
                have := (hl4 i o ho).1
                rw [get_cons, if_neg (by omega), get_newOnly, if_pos (by omega), get_cons, if_neg (by omega), get_cons, if_neg (by omega), get_cons, if_neg (by omega), get_cons, if_neg (by omega)]
                exact ho
              · cases ho
            · rw [get_cons] at ho
              split at ho
              · cases ho
              · rename_i hij
                rw [get_newOnly] at ho
                split at ho
                · rename_i hi
                  have := (hl1 i o ho).1
                  rw [get_cons, if_neg (by omega), get_newOnly, if_pos hi, get_cons, if_neg (by omega), get_cons, if_neg (by omega), get_cons, if_neg hij, get_cons, if_neg (by omega), hS4.keeps i (by omega) (by omega)]
                  exact ho
                · cases ho
          · intro e he
            rcases List.mem_append.1 he with he | he
            · exact hwes e he
            · simp only [List.mem_singleton] at he
              subst he; exact hwe
        · refine ⟨_, rfl, ?_⟩
          simp +decide -implicitDefEqProofs only [stp,code_seq,evWanted,evOp,val,absV,evBin,evConv,evBuiltin,cmpInt,vals,partsOf,isAggD,cellsOf,isAggV,Nat.reduceEqDiff,Nat.reduceLT,Nat.reduceBEq,Nat.reduceBNe,reduceCtorEq,if_true,if_false,reduceIte,forall_const,IntKind.bits,IntKind.signed,eq_self_iff_true,finalOf,resultOf,cellsGood,AC.isCell,senv_mem,lift, bld,spliceAll,allFields,places,splice,Nat.reduceAdd,Nat.reduceSub,Nat.reduceMul,Nat.reduceMod,Nat.reduceLeDiff,List.range,List.range.loop,pfind, awOps, ltyA, lenv_mem, none1, hnt]
          refine CallsA.mono (ihq B0 _ _ At' hpk1 hcq) fun v d4 n4 hR hl4 hle4 hok4 => ?_
          obtain ⟨e', cs', At2, rfl, htr, hwe, hc6, hcg, hpk4, hAt4, hS4⟩ := hR
          have hj8' := (hS4.keeps (n + 1) (by omega) (by omega)).trans hj8
          have hz4 := (hS4.keeps n (by omega) (by omega)).trans hz1
          have hT6 : List.take 6 cs' = cs' := List.take_of_length_le (by omega)
          have hg6 : cs'.all AC.isCell = true := hcg
          have f1 : ¬ n4 = n + 1 := by omega
          have f2 : ¬ n4 + 1 = n + 1 := by omega
          have hgk' := (hS4.keeps jk (hl1 jk _ hgk).1 (by omega)).trans hgk
          have f3 : (jk == n4) = false := by have := (hl1 jk _ hgk).1; simp; omega
          have f4 : ¬ jk = n + 1 := by omega
          have f5 : ¬ n4 = jk := by have := (hl1 jk _ hgk).1; omega
          have f6 : ¬ es.length > 100000 := by omega
          try simp +decide -implicitDefEqProofs only [stp,code_seq,evWanted,evOp,val,absV,evBin,evConv,evBuiltin,cmpInt,vals,partsOf,isAggD,cellsOf,isAggV,Nat.reduceEqDiff,Nat.reduceLT,Nat.reduceBEq,Nat.reduceBNe,reduceCtorEq,if_true,if_false,reduceIte,forall_const,IntKind.bits,IntKind.signed,eq_self_iff_true,finalOf,resultOf,cellsGood,AC.isCell,senv_mem,lift, bld,spliceAll,allFields,places,splice,Nat.reduceAdd,Nat.reduceSub,Nat.reduceMul,Nat.reduceMod,Nat.reduceLeDiff,List.range,List.range.loop,pfind, awOps, ltyA, lenv_mem, none1]
          refine any_ready lenv_ok none1_ok (rs := [1, 6]) (by kernel_rfl) (by simp) fun i hi => ?_
          have hi : i = 1 ∨ i = 6 := by simpa using hi
          rcases hi with rfl | rfl
          · refine ⟨_, rfl, ?_⟩
            simp +decide -implicitDefEqProofs only [stp,code_seq,evWanted,evOp,val,absV,evBin,evConv,evBuiltin,cmpInt,vals,partsOf,isAggD,cellsOf,isAggV,Nat.reduceEqDiff,Nat.reduceLT,Nat.reduceBEq,Nat.reduceBNe,reduceCtorEq,if_true,if_false,reduceIte,forall_const,IntKind.bits,IntKind.signed,eq_self_iff_true,finalOf,resultOf,cellsGood,AC.isCell,senv_mem,lift, bld,spliceAll,allFields,places,splice,Nat.reduceAdd,Nat.reduceSub,Nat.reduceMul,Nat.reduceMod,Nat.reduceLeDiff,List.range,List.range.loop,pfind, awOps, ltyA, lenv_mem, none1, hnt, hj8']
            refine any_seq lenv_ok none1_ok 6 (List.drop 6 _) rfl (by kernel_rfl) ?_
            simp +decide -implicitDefEqProofs only [stp,code_seq,evWanted,evOp,val,absV,evBin,evConv,evBuiltin,cmpInt,vals,partsOf,isAggD,cellsOf,isAggV,Nat.reduceEqDiff,Nat.reduceLT,Nat.reduceBEq,Nat.reduceBNe,reduceCtorEq,if_true,if_false,reduceIte,forall_const,IntKind.bits,IntKind.signed,eq_self_iff_true,finalOf,resultOf,cellsGood,AC.isCell,senv_mem,lift, bld,spliceAll,allFields,places,splice,Nat.reduceAdd,Nat.reduceSub,Nat.reduceMul,Nat.reduceMod,Nat.reduceLeDiff,List.range,List.range.loop,pfind, awOps, ltyA, lenv_mem, none1, List.drop_succ_cons, List.drop_zero, hnt, g0, g1, g4, g8, g9, hj8', hT6, hc6, hg6, f1, f2, evAppend, hwq, Bool.true_or, Bool.or_self, hgk', f3, f4, f5, f6, hkl]
            refine hQ1 (q - 1) _ _ _ (by omega) ⟨by simp only [nt_put, hnt], by omega, ((((Sets.trans hS1 hS4 (by omega)).cons (.inr (by omega))).cons (.inr (by omega))).cons (.inr (by omega))).cons (.inr (by omega)), ?_⟩
            simp +decide -implicitDefEqProofs only [stp,code_seq,evWanted,evOp,val,absV,evBin,evConv,evBuiltin,cmpInt,vals,partsOf,isAggD,cellsOf,isAggV,Nat.reduceEqDiff,Nat.reduceLT,Nat.reduceBEq,Nat.reduceBNe,reduceCtorEq,if_true,if_false,reduceIte,forall_const,IntKind.bits,IntKind.signed,eq_self_iff_true,finalOf,resultOf,cellsGood,AC.isCell,senv_mem,lift, hnt, g0, g1, g4, g8]
            have hjn := (hl1 jk _ hgk).1
            refine ⟨by rw [if_neg (by omega), if_neg (by omega), if_neg (by omega), if_neg (by omega)]; exact hz4, At2, es ++ [e'], .sl (n4 + 1) (es.length + 1), by omega, ?_, rfl, .inr ⟨n4 + 1, kcs ++ cs', by omega, by simp, by simp, ?_, by simp [hc6, hkl]; omega, by simp [hcg, hkg], ?_⟩, ?_, by simp; omega⟩
            · rw [PK, get_cons, if_neg (by omega), get_cons, if_neg (by omega), get_cons, if_neg (by omega), get_cons, if_neg (by omega)]; exact hpk4
            · rw [get_cons, if_neg (by omega), get_cons, if_pos rfl]
            · refine isKids_snoc hc6 (isEx_keep (H := [newOnly n1 d4]) (fun i o ho => ?_) htr) es kcs hkl (isKids_keep (H := [(jk, none) :: newOnly (n + 2) d1]) (fun i o ho => ?_) hkt)
              · rw [get_newOnly] at ho
                split at ho
                · rename_i hi
                  have := (hl4 i o ho).1
                  rw [get_cons, if_neg (by omega), get_newOnly, if_pos (by omega), get_cons, if_neg (by omega), get_cons, if_neg (by omega), get_cons, if_neg (by omega), get_cons, if_neg (by omega)]
                  exact ho
                · cases ho
              · rw [get_cons] at ho
                split at ho
                · cases ho
                · rename_i hij
                  rw [get_newOnly] at ho
                  split at ho
                  · rename_i hi
                    have := (hl1 i o ho).1
                    rw [get_cons, if_neg (by omega), get_newOnly, if_pos hi, get_cons, if_neg (by omega), get_cons, if_neg (by omega), get_cons, if_neg hij, get_cons, if_neg (by omega), hS4.keeps i (by omega) (by omega)]
                    exact ho
                  · cases ho
            · intro e he
              rcases List.mem_append.1 he with he | he
              · exact hwes e he
              · simp only [List.mem_singleton] at he
                subst he; exact hwe
          · refine ⟨_, rfl, ?_⟩
            simp +decide -implicitDefEqProofs only [stp,code_seq,evWanted,evOp,val,absV,evBin,evConv,evBuiltin,cmpInt,vals,partsOf,isAggD,cellsOf,isAggV,Nat.reduceEqDiff,Nat.reduceLT,Nat.reduceBEq,Nat.reduceBNe,reduceCtorEq,if_true,if_false,reduceIte,forall_const,IntKind.bits,IntKind.signed,eq_self_iff_true,finalOf,resultOf,cellsGood,AC.isCell,senv_mem,lift, bld,spliceAll,allFields,places,splice,Nat.reduceAdd,Nat.reduceSub,Nat.reduceMul,Nat.reduceMod,Nat.reduceLeDiff,List.range,List.range.loop,pfind, awOps, ltyA, lenv_mem, none1, hnt, hc6, hg6]
            refine any_ready lenv_ok none1_ok (rs := [1]) (by kernel_rfl) (by simp) fun i hi => ?_
            have hi : i = 1 := by simpa using hi
            subst hi
            refine ⟨_, rfl, ?_⟩
            simp +decide -implicitDefEqProofs only [stp,code_seq,evWanted,evOp,val,absV,evBin,evConv,evBuiltin,cmpInt,vals,partsOf,isAggD,cellsOf,isAggV,Nat.reduceEqDiff,Nat.reduceLT,Nat.reduceBEq,Nat.reduceBNe,reduceCtorEq,if_true,if_false,reduceIte,forall_const,IntKind.bits,IntKind.signed,eq_self_iff_true,finalOf,resultOf,cellsGood,AC.isCell,senv_mem,lift, bld,spliceAll,allFields,places,splice,Nat.reduceAdd,Nat.reduceSub,Nat.reduceMul,Nat.reduceMod,Nat.reduceLeDiff,List.range,List.range.loop,pfind, awOps, ltyA, lenv_mem, none1, hnt, hj8', f1]
            refine any_seq lenv_ok none1_ok 7 (List.drop 7 _) rfl (by kernel_rfl) ?_
            simp +decide -implicitDefEqProofs only [stp,code_seq,evWanted,evOp,val,absV,evBin,evConv,evBuiltin,cmpInt,vals,partsOf,isAggD,cellsOf,isAggV,Nat.reduceEqDiff,Nat.reduceLT,Nat.reduceBEq,Nat.reduceBNe,reduceCtorEq,if_true,if_false,reduceIte,forall_const,IntKind.bits,IntKind.signed,eq_self_iff_true,finalOf,resultOf,cellsGood,AC.isCell,senv_mem,lift, bld,spliceAll,allFields,places,splice,Nat.reduceAdd,Nat.reduceSub,Nat.reduceMul,Nat.reduceMod,Nat.reduceLeDiff,List.range,List.range.loop,pfind, awOps, ltyA, lenv_mem, none1, List.drop_succ_cons, List.drop_zero, hnt, g0, g1, g4, g8, g9, hj8', hT6, hc6, hg6, f1, f2, evAppend, hwq, Bool.true_or, Bool.or_self, hgk', f3, f4, f5, f6, hkl]
            refine hQ1 (q - 1) _ _ _ (by omega) ⟨by simp only [nt_put, hnt], by omega, ((((Sets.trans hS1 hS4 (by omega)).cons (.inr (by omega))).cons (.inr (by omega))).cons (.inr (by omega))).cons (.inr (by omega)), ?_⟩
            simp +decide -implicitDefEqProofs only [stp,code_seq,evWanted,evOp,val,absV,evBin,evConv,evBuiltin,cmpInt,vals,partsOf,isAggD,cellsOf,isAggV,Nat.reduceEqDiff,Nat.reduceLT,Nat.reduceBEq,Nat.reduceBNe,reduceCtorEq,if_true,if_false,reduceIte,forall_const,IntKind.bits,IntKind.signed,eq_self_iff_true,finalOf,resultOf,cellsGood,AC.isCell,senv_mem,lift, hnt, g0, g1, g4, g8]
            have hjn := (hl1 jk _ hgk).1
            refine ⟨by rw [if_neg (by omega), if_neg (by omega), if_neg (by omega), if_neg (by omega)]; exact hz4, At2, es ++ [e'], .sl (n4 + 1) (es.length + 1), by omega, ?_, rfl, .inr ⟨n4 + 1, kcs ++ cs', by omega, by simp, by simp, ?_, by simp [hc6, hkl]; omega, by simp [hcg, hkg], ?_⟩, ?_, by simp; omega⟩
            · rw [PK, get_cons, if_neg (by omega), get_cons, if_neg (by omega), get_cons, if_neg (by omega), get_cons, if_neg (by omega)]; exact hpk4
            · rw [get_cons, if_neg (by omega), get_cons, if_pos rfl]
            · refine isKids_snoc hc6 (isEx_keep (H := [newOnly n1 d4]) (fun i o ho => ?_) htr) es kcs hkl (isKids_keep (H := [(jk, none) :: newOnly (n + 2) d1]) (fun i o ho => ?_) hkt)
              · rw [get_newOnly] at ho
                split at ho
                · rename_i hi
                  have := (hl4 i o ho).1
                  rw [get_cons, if_neg (by omega), get_newOnly, if_pos (by omega), get_cons, if_neg (by omega), get_cons, if_neg (by omega), get_cons, if_neg (by omega), get_cons, if_neg (by omega)]
                  exact ho
                · cases ho
              · rw [get_cons] at ho
                split at ho
                · cases ho
                · rename_i hij
                  rw [get_newOnly] at ho
                  split at ho
                  · rename_i hi
                    have := (hl1 i o ho).1
                    rw [get_cons, if_neg (by omega), get_newOnly, if_pos hi, get_cons, if_neg (by omega), get_cons, if_neg (by omega), get_cons, if_neg hij, get_cons, if_neg (by omega), hS4.keeps i (by omega) (by omega)]
                    exact ho
                  · cases ho
            · intro e he
              rcases List.mem_append.1 he with he | he
              · exact hwes e he
              · simp only [List.mem_singleton] at he
                subst he; exact hwe
    · have hkd12 : kd = 1 ∨ kd = 2 := by omega
      have f1 : ¬ n = n + 1 := by omega
      have f0 : ¬ n + 1 = n := by omega
      rcases hK with ⟨rfl, rfl⟩ | ⟨jk, kcs, hjk, rfl, hne, hgk, hkl, hkg, hkt⟩
      · skip
        simp +decide -implicitDefEqProofs only [stp,code_seq,evWanted,evOp,val,absV,evBin,evConv,evBuiltin,cmpInt,vals,partsOf,isAggD,cellsOf,isAggV,Nat.reduceEqDiff,Nat.reduceLT,Nat.reduceBEq,Nat.reduceBNe,reduceCtorEq,if_true,if_false,reduceIte,forall_const,IntKind.bits,IntKind.signed,eq_self_iff_true,finalOf,resultOf,cellsGood,AC.isCell,senv_mem,lift, bld,spliceAll,allFields,places,splice,Nat.reduceAdd,Nat.reduceSub,Nat.reduceMul,Nat.reduceMod,Nat.reduceLeDiff,List.range,List.range.loop,pfind, ltyA, lenv_mem, none1, hnt, g0, g1, g4, g8, g9, h1]
        refine hQ2 _ _ _ _ (by simp) ?_
        simp +decide -implicitDefEqProofs only [stp,code_seq,evWanted,evOp,val,absV,evBin,evConv,evBuiltin,cmpInt,vals,partsOf,isAggD,cellsOf,isAggV,Nat.reduceEqDiff,Nat.reduceLT,Nat.reduceBEq,Nat.reduceBNe,reduceCtorEq,if_true,if_false,reduceIte,forall_const,IntKind.bits,IntKind.signed,eq_self_iff_true,finalOf,resultOf,cellsGood,AC.isCell,senv_mem,lift, bld,spliceAll,allFields,places,splice,Nat.reduceAdd,Nat.reduceSub,Nat.reduceMul,Nat.reduceMod,Nat.reduceLeDiff,List.range,List.range.loop,pfind, ltyA, lenv_mem, none1, hnt, g0, g1, g4, g8, g9, hj8, hz1, f0, f1]
        refine hQ _ _ _ _ (.agg [.int .i64 kd, .str [], .sl0, .int .i64 0, .int .i64 0, (.sl0)]) (by simp) ?_ ⟨.mk kd [] [] 0 0 [], _, At', rfl, ?_, ?_, rfl, rfl, ?_, by omega, ?_⟩
        · simp +decide -implicitDefEqProofs only [stp,code_seq,evWanted,evOp,val,absV,evBin,evConv,evBuiltin,cmpInt,vals,partsOf,isAggD,cellsOf,isAggV,Nat.reduceEqDiff,Nat.reduceLT,Nat.reduceBEq,Nat.reduceBNe,reduceCtorEq,if_true,if_false,reduceIte,forall_const,IntKind.bits,IntKind.signed,eq_self_iff_true,finalOf,resultOf,cellsGood,AC.isCell,senv_mem,lift, bld,spliceAll,allFields,places,splice,Nat.reduceAdd,Nat.reduceSub,Nat.reduceMul,Nat.reduceMod,Nat.reduceLeDiff,List.range,List.range.loop,pfind, ltyA, Tryz.f20, hnt, g4]
        · rcases hkd12 with rfl | rfl <;> simp [TreeAt, isEx, isInts, sb_refl]
        · rcases hkd12 with rfl | rfl <;> simp [wfEx, wfAll]
        · rw [PK, get_cons, if_neg e5]; exact hpk1
        · exact hS1.cons (.inr (Nat.le_refl n))
      · skip
        simp +decide -implicitDefEqProofs only [stp,code_seq,evWanted,evOp,val,absV,evBin,evConv,evBuiltin,cmpInt,vals,partsOf,isAggD,cellsOf,isAggV,Nat.reduceEqDiff,Nat.reduceLT,Nat.reduceBEq,Nat.reduceBNe,reduceCtorEq,if_true,if_false,reduceIte,forall_const,IntKind.bits,IntKind.signed,eq_self_iff_true,finalOf,resultOf,cellsGood,AC.isCell,senv_mem,lift, bld,spliceAll,allFields,places,splice,Nat.reduceAdd,Nat.reduceSub,Nat.reduceMul,Nat.reduceMod,Nat.reduceLeDiff,List.range,List.range.loop,pfind, ltyA, lenv_mem, none1, hnt, g0, g1, g4, g8, g9, h1]
        refine hQ2 _ _ _ _ (by simp) ?_
        simp +decide -implicitDefEqProofs only [stp,code_seq,evWanted,evOp,val,absV,evBin,evConv,evBuiltin,cmpInt,vals,partsOf,isAggD,cellsOf,isAggV,Nat.reduceEqDiff,Nat.reduceLT,Nat.reduceBEq,Nat.reduceBNe,reduceCtorEq,if_true,if_false,reduceIte,forall_const,IntKind.bits,IntKind.signed,eq_self_iff_true,finalOf,resultOf,cellsGood,AC.isCell,senv_mem,lift, bld,spliceAll,allFields,places,splice,Nat.reduceAdd,Nat.reduceSub,Nat.reduceMul,Nat.reduceMod,Nat.reduceLeDiff,List.range,List.range.loop,pfind, ltyA, lenv_mem, none1, hnt, g0, g1, g4, g8, g9, hj8, hz1, f0, f1]
        refine hQ _ _ _ _ (.agg [.int .i64 kd, .str [], .sl0, .int .i64 0, .int .i64 0, (.sl jk es.length)]) (by simp) ?_ ⟨.mk kd [] [] 0 0 es, _, At', rfl, ?_, ?_, rfl, rfl, ?_, by omega, ?_⟩
        · simp +decide -implicitDefEqProofs only [stp,code_seq,evWanted,evOp,val,absV,evBin,evConv,evBuiltin,cmpInt,vals,partsOf,isAggD,cellsOf,isAggV,Nat.reduceEqDiff,Nat.reduceLT,Nat.reduceBEq,Nat.reduceBNe,reduceCtorEq,if_true,if_false,reduceIte,forall_const,IntKind.bits,IntKind.signed,eq_self_iff_true,finalOf,resultOf,cellsGood,AC.isCell,senv_mem,lift, bld,spliceAll,allFields,places,splice,Nat.reduceAdd,Nat.reduceSub,Nat.reduceMul,Nat.reduceMod,Nat.reduceLeDiff,List.range,List.range.loop,pfind, ltyA, Tryz.f20, hnt, g4]
        · have hjn := (hl1 jk _ hgk).1
          have hk2 := isKids_keep (H := [(jk, none) :: newOnly (n + 2) d1]) (H' := [newOnly n ((n, some (AObj.cells 36 [.int .i64 kd, .str [], .sl0, .int .i64 0, .int .i64 0, .sl jk es.length])) :: d1)]) (fun i o ho => by
            rw [get_cons] at ho
            split at ho
            · cases ho
            · rw [get_newOnly] at ho ⊢
              split at ho
              · rename_i hi
                rw [if_pos (by omega), get_cons, if_neg (by omega)]; exact ho
              · cases ho) hkt
          have hnj : n ≤ jk := by omega
          have hnj2 : ¬ n = jk := by omega
          unfold TreeAt
          simp [isEx, isInts, sb_refl, get_newOnly, get_cons, hnj, hnj2, hgk, hk2]
        · have hwa := wfAll_of hwes
          have hel : es.length < 1152921504606846976 := by omega
          rcases hkd12 with rfl | rfl <;> simp [wfEx, hwa, hel]
        · rw [PK, get_cons, if_neg e5]; exact hpk1
        · exact hS1.cons (.inr (Nat.le_refl n))

theorem expr_ok {x : AC} {l : List UInt8} (hx : BytesIn mem x l) {ix : Nat} : ∀ dp, ExprOk mem x ix dp
  | 0 => expr_step hx fun k h => by omega
  | dp + 1 => expr_step hx fun k h => by
    have : k = dp := by omega
    subst this
    exact expr_ok hx k

end Go.Proofs.YtdpielghjaehbaaGreat.Ev
