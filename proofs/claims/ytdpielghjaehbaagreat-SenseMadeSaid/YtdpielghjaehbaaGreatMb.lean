/- regletlaw04: numbers one by one. -/
import Derived.Test.YtdpielghjaehbaaGreatMa
set_option linter.unusedSectionVars false
set_option linter.unusedSimpArgs false
set_option linter.unusedVariables false
namespace Go.Proofs.YtdpielghjaehbaaGreat.Ev
open Go.RowKit

variable {mem : Nat → Nat → Option Value} {B0 : Nat}

/-- The number that comes at a place. -/
def pickV (l : List UInt8) (At m : Nat) : Nat := if l.length < At + 1 ∨ 150 < At + 1 then 0 else (l.getD At 0).toNat % m

theorem pickV_lt {l : List UInt8} {At m : Nat} (h : 0 < m) : pickV l At m < m := by
  unfold pickV
  split
  · exact h
  · exact Nat.mod_lt _ h

/-- The picker. -/
def PK (d : Seg) (ix : Nat) (x : AC) (At : Nat) : Prop := get [d] ix = some (.cells 54 [x, .int .i64 At])

set_option maxRecDepth 20000 in
set_option maxHeartbeats 2000000 in
theorem pick_ok {x : AC} {l : List UInt8} (hx : BytesIn mem x l) {d : Seg} {n ix At : Nat} {m : Int} (hpk : PK d ix x At) (hAt : At < 100000) (hm0 : 0 < m) (hm1 : m < 256) :
    CallsA Tryz.prog (lenv mem) B0 19 [.c (.ptr ix 0), .c (.int .i64 m)] d n fun v d' n' => v = .c (.int .i64 (pickV l At m.toNat : Nat)) ∧ d' = (ix, some (.cells 54 [x, .int .i64 ((At + 1 : Nat) : Int)])) :: d ∧ n' = n := by
  refine callsA_code lenv_ok none1_ok Tryz.func19 rfl (by decide) rfl rfl (by simp) fun hl ha Q hQ => ?_
  unfold PK at hpk
  have hw : IntKind.i64.wrap ((At : Int) + 1) = ((At + 1 : Nat) : Int) := wrap_succ (by omega)
  simp +decide -implicitDefEqProofs only [stp,code_seq,evWanted,evOp,val,absV,evBin,evConv,evBuiltin,cmpInt,vals,partsOf,isAggD,cellsOf,isAggV,Nat.reduceEqDiff,Nat.reduceLT,Nat.reduceBEq,Nat.reduceBNe,reduceCtorEq,if_true,if_false,reduceIte,forall_const,IntKind.bits,IntKind.signed,eq_self_iff_true,finalOf,resultOf,cellsGood,AC.isCell,senv_mem,lift, bld,spliceAll,allFields,places,splice,Nat.reduceAdd,Nat.reduceSub,Nat.reduceMul,Nat.reduceMod,Nat.reduceLeDiff,List.range,List.range.loop,pfind, Tryz.f19, ltyA, lenv_mem, none1, hpk, hw, Bool.true_or]
  rcases hx with ⟨rfl, hln⟩ | ⟨a, cap, rfl, hcap, hcells⟩
  · have h1 : ((At + 1 : Nat) : Int) > 0 := by omega
    have hz : pickV l At m.toNat = 0 := by unfold pickV; rw [if_pos]; left; rw [hln]; simp
    apply code_drawn lenv_ok none1_ok (by decide) _ (by rfl)
    · simp +decide -implicitDefEqProofs only [stp,code_seq,evWanted,evOp,val,absV,evBin,evConv,evBuiltin,cmpInt,vals,partsOf,isAggD,cellsOf,isAggV,Nat.reduceEqDiff,Nat.reduceLT,Nat.reduceBEq,Nat.reduceBNe,reduceCtorEq,if_true,if_false,reduceIte,forall_const,IntKind.bits,IntKind.signed,eq_self_iff_true,finalOf,resultOf,cellsGood,AC.isCell,senv_mem,lift, flat,d_nil,d_cons,d_true,d_false,d_some,d_some1,slotsAt_get,slotsAt_nt,get_mk_cons,get_mk,wrs_nil,wrs_cons,wrs_none,get_heapAt,get_seen_nil,get_seen_cons,get_seen_one,List.cons_append,List.nil_append,Nat.reduceSub,Nat.reduceAdd,Nat.add_one_sub_one,bitOf, ltyA, lenv_mem, none1, h1]
      rfl
    · rfl
    simp +decide -implicitDefEqProofs only [stp,code_seq,evWanted,evOp,val,absV,evBin,evConv,evBuiltin,cmpInt,vals,partsOf,isAggD,cellsOf,isAggV,Nat.reduceEqDiff,Nat.reduceLT,Nat.reduceBEq,Nat.reduceBNe,reduceCtorEq,if_true,if_false,reduceIte,forall_const,IntKind.bits,IntKind.signed,eq_self_iff_true,finalOf,resultOf,cellsGood,AC.isCell,senv_mem,lift, flat,d_nil,d_cons,d_true,d_false,d_some,d_some1,slotsAt_get,slotsAt_nt,get_mk_cons,get_mk,wrs_nil,wrs_cons,wrs_none,get_heapAt,get_seen_nil,get_seen_cons,get_seen_one,List.cons_append,List.nil_append,Nat.reduceSub,Nat.reduceAdd,Nat.add_one_sub_one,bitOf, ltyA, lenv_mem, none1]
    refine hQ _ _ _ _ (.c (.int .i64 (pickV l At m.toNat : Nat))) (by simp) ?_ ⟨rfl, rfl, rfl⟩
    simp +decide -implicitDefEqProofs only [stp,code_seq,evWanted,evOp,val,absV,evBin,evConv,evBuiltin,cmpInt,vals,partsOf,isAggD,cellsOf,isAggV,Nat.reduceEqDiff,Nat.reduceLT,Nat.reduceBEq,Nat.reduceBNe,reduceCtorEq,if_true,if_false,reduceIte,forall_const,IntKind.bits,IntKind.signed,eq_self_iff_true,finalOf,resultOf,cellsGood,AC.isCell,senv_mem,lift, flat,d_nil,d_cons,d_true,d_false,d_some,d_some1,slotsAt_get,slotsAt_nt,get_mk_cons,get_mk,wrs_nil,wrs_cons,wrs_none,get_heapAt,get_seen_nil,get_seen_cons,get_seen_one,List.cons_append,List.nil_append,Nat.reduceSub,Nat.reduceAdd,Nat.add_one_sub_one,bitOf, Tryz.f19]
    rw [hz]
    rfl
  · by_cases h1 : ((At + 1 : Nat) : Int) > l.length
    · have hz : pickV l At m.toNat = 0 := by unfold pickV; rw [if_pos]; left; omega
      apply code_drawn lenv_ok none1_ok (by decide) _ (by rfl)
      · simp +decide -implicitDefEqProofs only [stp,code_seq,evWanted,evOp,val,absV,evBin,evConv,evBuiltin,cmpInt,vals,partsOf,isAggD,cellsOf,isAggV,Nat.reduceEqDiff,Nat.reduceLT,Nat.reduceBEq,Nat.reduceBNe,reduceCtorEq,if_true,if_false,reduceIte,forall_const,IntKind.bits,IntKind.signed,eq_self_iff_true,finalOf,resultOf,cellsGood,AC.isCell,senv_mem,lift, flat,d_nil,d_cons,d_true,d_false,d_some,d_some1,slotsAt_get,slotsAt_nt,get_mk_cons,get_mk,wrs_nil,wrs_cons,wrs_none,get_heapAt,get_seen_nil,get_seen_cons,get_seen_one,List.cons_append,List.nil_append,Nat.reduceSub,Nat.reduceAdd,Nat.add_one_sub_one,bitOf, ltyA, lenv_mem, none1, h1]
        rfl
      · rfl
      simp +decide -implicitDefEqProofs only [stp,code_seq,evWanted,evOp,val,absV,evBin,evConv,evBuiltin,cmpInt,vals,partsOf,isAggD,cellsOf,isAggV,Nat.reduceEqDiff,Nat.reduceLT,Nat.reduceBEq,Nat.reduceBNe,reduceCtorEq,if_true,if_false,reduceIte,forall_const,IntKind.bits,IntKind.signed,eq_self_iff_true,finalOf,resultOf,cellsGood,AC.isCell,senv_mem,lift, flat,d_nil,d_cons,d_true,d_false,d_some,d_some1,slotsAt_get,slotsAt_nt,get_mk_cons,get_mk,wrs_nil,wrs_cons,wrs_none,get_heapAt,get_seen_nil,get_seen_cons,get_seen_one,List.cons_append,List.nil_append,Nat.reduceSub,Nat.reduceAdd,Nat.add_one_sub_one,bitOf, ltyA, lenv_mem, none1]
      refine hQ _ _ _ _ (.c (.int .i64 (pickV l At m.toNat : Nat))) (by simp) ?_ ⟨rfl, rfl, rfl⟩
      simp +decide -implicitDefEqProofs only [stp,code_seq,evWanted,evOp,val,absV,evBin,evConv,evBuiltin,cmpInt,vals,partsOf,isAggD,cellsOf,isAggV,Nat.reduceEqDiff,Nat.reduceLT,Nat.reduceBEq,Nat.reduceBNe,reduceCtorEq,if_true,if_false,reduceIte,forall_const,IntKind.bits,IntKind.signed,eq_self_iff_true,finalOf,resultOf,cellsGood,AC.isCell,senv_mem,lift, flat,d_nil,d_cons,d_true,d_false,d_some,d_some1,slotsAt_get,slotsAt_nt,get_mk_cons,get_mk,wrs_nil,wrs_cons,wrs_none,get_heapAt,get_seen_nil,get_seen_cons,get_seen_one,List.cons_append,List.nil_append,Nat.reduceSub,Nat.reduceAdd,Nat.add_one_sub_one,bitOf, Tryz.f19]
      rw [hz]
      rfl
    · by_cases h2 : ((At + 1 : Nat) : Int) > 150
      · have hz : pickV l At m.toNat = 0 := by unfold pickV; rw [if_pos]; right; omega
        apply code_drawn lenv_ok none1_ok (by decide) _ (by rfl)
        · simp +decide -implicitDefEqProofs only [stp,code_seq,evWanted,evOp,val,absV,evBin,evConv,evBuiltin,cmpInt,vals,partsOf,isAggD,cellsOf,isAggV,Nat.reduceEqDiff,Nat.reduceLT,Nat.reduceBEq,Nat.reduceBNe,reduceCtorEq,if_true,if_false,reduceIte,forall_const,IntKind.bits,IntKind.signed,eq_self_iff_true,finalOf,resultOf,cellsGood,AC.isCell,senv_mem,lift, flat,d_nil,d_cons,d_true,d_false,d_some,d_some1,slotsAt_get,slotsAt_nt,get_mk_cons,get_mk,wrs_nil,wrs_cons,wrs_none,get_heapAt,get_seen_nil,get_seen_cons,get_seen_one,List.cons_append,List.nil_append,Nat.reduceSub,Nat.reduceAdd,Nat.add_one_sub_one,bitOf, ltyA, lenv_mem, none1, h1, h2]
          rfl
        · rfl
        simp +decide -implicitDefEqProofs only [stp,code_seq,evWanted,evOp,val,absV,evBin,evConv,evBuiltin,cmpInt,vals,partsOf,isAggD,cellsOf,isAggV,Nat.reduceEqDiff,Nat.reduceLT,Nat.reduceBEq,Nat.reduceBNe,reduceCtorEq,if_true,if_false,reduceIte,forall_const,IntKind.bits,IntKind.signed,eq_self_iff_true,finalOf,resultOf,cellsGood,AC.isCell,senv_mem,lift, flat,d_nil,d_cons,d_true,d_false,d_some,d_some1,slotsAt_get,slotsAt_nt,get_mk_cons,get_mk,wrs_nil,wrs_cons,wrs_none,get_heapAt,get_seen_nil,get_seen_cons,get_seen_one,List.cons_append,List.nil_append,Nat.reduceSub,Nat.reduceAdd,Nat.add_one_sub_one,bitOf, ltyA, lenv_mem, none1]
        refine hQ _ _ _ _ (.c (.int .i64 (pickV l At m.toNat : Nat))) (by simp) ?_ ⟨rfl, rfl, rfl⟩
        simp +decide -implicitDefEqProofs only [stp,code_seq,evWanted,evOp,val,absV,evBin,evConv,evBuiltin,cmpInt,vals,partsOf,isAggD,cellsOf,isAggV,Nat.reduceEqDiff,Nat.reduceLT,Nat.reduceBEq,Nat.reduceBNe,reduceCtorEq,if_true,if_false,reduceIte,forall_const,IntKind.bits,IntKind.signed,eq_self_iff_true,finalOf,resultOf,cellsGood,AC.isCell,senv_mem,lift, flat,d_nil,d_cons,d_true,d_false,d_some,d_some1,slotsAt_get,slotsAt_nt,get_mk_cons,get_mk,wrs_nil,wrs_cons,wrs_none,get_heapAt,get_seen_nil,get_seen_cons,get_seen_one,List.cons_append,List.nil_append,Nat.reduceSub,Nat.reduceAdd,Nat.add_one_sub_one,bitOf, Tryz.f19]
        rw [hz]
        rfl
      · obtain ⟨b, off, sp⟩ := a
        obtain ⟨c, hc⟩ : ∃ c, l[At]? = some c := ⟨_, List.getElem?_eq_getElem (by omega)⟩
        obtain ⟨hsp, hmem⟩ := hcells At c hc
        simp only at hsp hmem
        subst hsp
        have hs1 : IntKind.i64.wrap (((At + 1 : Nat) : Int) - 1) = (At : Int) := by rw [wrap_id (by omega) (by omega)]; omega
        have hi0 : (0 : Int) ≤ (At : Int) := by omega
        have hi1 : (At : Int) < l.length := by omega
        have hcb := byte_cast c
        have hwc : IntKind.i64.wrap ((c.toNat : Nat) : Int) = (c.toNat : Int) := wrap_id (by omega) (by omega)
        have hm : (m == 0) = false := by simp; omega
        have hz : pickV l At m.toNat = c.toNat % m.toNat := by
          unfold pickV
          rw [if_neg (by omega), List.getD_eq_getElem?_getD, hc]
          rfl
        have htm : ((c.toNat : Nat) : Int).tmod m = ((pickV l At m.toNat : Nat) : Int) := by
          rw [hz, Int.tmod_eq_emod_of_nonneg (by omega)]
          obtain ⟨k, rfl⟩ : ∃ k : Nat, m = k := ⟨m.toNat, by omega⟩
          simp
        apply code_drawn lenv_ok none1_ok (by decide) _ (by rfl)
        · simp +decide -implicitDefEqProofs only [stp,code_seq,evWanted,evOp,val,absV,evBin,evConv,evBuiltin,cmpInt,vals,partsOf,isAggD,cellsOf,isAggV,Nat.reduceEqDiff,Nat.reduceLT,Nat.reduceBEq,Nat.reduceBNe,reduceCtorEq,if_true,if_false,reduceIte,forall_const,IntKind.bits,IntKind.signed,eq_self_iff_true,finalOf,resultOf,cellsGood,AC.isCell,senv_mem,lift, flat,d_nil,d_cons,d_true,d_false,d_some,d_some1,slotsAt_get,slotsAt_nt,get_mk_cons,get_mk,wrs_nil,wrs_cons,wrs_none,get_heapAt,get_seen_nil,get_seen_cons,get_seen_one,List.cons_append,List.nil_append,Nat.reduceSub,Nat.reduceAdd,Nat.add_one_sub_one,bitOf, ltyA, lenv_mem, none1, h1, h2]
          rfl
        · rfl
        simp +decide -implicitDefEqProofs only [stp,code_seq,evWanted,evOp,val,absV,evBin,evConv,evBuiltin,cmpInt,vals,partsOf,isAggD,cellsOf,isAggV,Nat.reduceEqDiff,Nat.reduceLT,Nat.reduceBEq,Nat.reduceBNe,reduceCtorEq,if_true,if_false,reduceIte,forall_const,IntKind.bits,IntKind.signed,eq_self_iff_true,finalOf,resultOf,cellsGood,AC.isCell,senv_mem,lift, flat,d_nil,d_cons,d_true,d_false,d_some,d_some1,slotsAt_get,slotsAt_nt,get_mk_cons,get_mk,wrs_nil,wrs_cons,wrs_none,get_heapAt,get_seen_nil,get_seen_cons,get_seen_one,List.cons_append,List.nil_append,Nat.reduceSub,Nat.reduceAdd,Nat.add_one_sub_one,bitOf, ltyA, lenv_mem, none1]
        apply code_drawn lenv_ok none1_ok (by decide) _ (by rfl)
        · simp +decide -implicitDefEqProofs only [stp,code_seq,evWanted,evOp,val,absV,evBin,evConv,evBuiltin,cmpInt,vals,partsOf,isAggD,cellsOf,isAggV,Nat.reduceEqDiff,Nat.reduceLT,Nat.reduceBEq,Nat.reduceBNe,reduceCtorEq,if_true,if_false,reduceIte,forall_const,IntKind.bits,IntKind.signed,eq_self_iff_true,finalOf,resultOf,cellsGood,AC.isCell,senv_mem,lift, flat,d_nil,d_cons,d_true,d_false,d_some,d_some1,slotsAt_get,slotsAt_nt,get_mk_cons,get_mk,wrs_nil,wrs_cons,wrs_none,get_heapAt,get_seen_nil,get_seen_cons,get_seen_one,List.cons_append,List.nil_append,Nat.reduceSub,Nat.reduceAdd,Nat.add_one_sub_one,bitOf, ltyA, lenv_mem, none1, hs1, hi0, hi1, Int.toNat_natCast, hmem, hwc, hm, htm]
          rfl
        · rfl
        simp +decide -implicitDefEqProofs only [stp,code_seq,evWanted,evOp,val,absV,evBin,evConv,evBuiltin,cmpInt,vals,partsOf,isAggD,cellsOf,isAggV,Nat.reduceEqDiff,Nat.reduceLT,Nat.reduceBEq,Nat.reduceBNe,reduceCtorEq,if_true,if_false,reduceIte,forall_const,IntKind.bits,IntKind.signed,eq_self_iff_true,finalOf,resultOf,cellsGood,AC.isCell,senv_mem,lift, flat,d_nil,d_cons,d_true,d_false,d_some,d_some1,slotsAt_get,slotsAt_nt,get_mk_cons,get_mk,wrs_nil,wrs_cons,wrs_none,get_heapAt,get_seen_nil,get_seen_cons,get_seen_one,List.cons_append,List.nil_append,Nat.reduceSub,Nat.reduceAdd,Nat.add_one_sub_one,bitOf, ltyA, lenv_mem, none1]
        refine hQ _ _ _ _ (.c (.int .i64 (pickV l At m.toNat : Nat))) (by simp) ?_ ⟨rfl, rfl, rfl⟩
        simp +decide -implicitDefEqProofs only [stp,code_seq,evWanted,evOp,val,absV,evBin,evConv,evBuiltin,cmpInt,vals,partsOf,isAggD,cellsOf,isAggV,Nat.reduceEqDiff,Nat.reduceLT,Nat.reduceBEq,Nat.reduceBNe,reduceCtorEq,if_true,if_false,reduceIte,forall_const,IntKind.bits,IntKind.signed,eq_self_iff_true,finalOf,resultOf,cellsGood,AC.isCell,senv_mem,lift, flat,d_nil,d_cons,d_true,d_false,d_some,d_some1,slotsAt_get,slotsAt_nt,get_mk_cons,get_mk,wrs_nil,wrs_cons,wrs_none,get_heapAt,get_seen_nil,get_seen_cons,get_seen_one,List.cons_append,List.nil_append,Nat.reduceSub,Nat.reduceAdd,Nat.add_one_sub_one,bitOf, Tryz.f19]

open Classical in
/-- The function pick, known ahead. -/
noncomputable def callPick (l : List UInt8) (x : AC) (ix : Nat) : CallF := fun f args B d n =>
  if h : f = 19 ∧ ∃ (At : Nat) (m : Int), args = [.c (.ptr ix 0), .c (.int .i64 m)] ∧ 0 < m ∧ m < 256 ∧ At < 100000 ∧ get (d :: B) ix = some (.cells 54 [x, .int .i64 (At : Int)]) then
    some (.c (.int .i64 (pickV l h.2.choose h.2.choose_spec.choose.toNat : Nat)), (ix, some (.cells 54 [x, .int .i64 ((h.2.choose + 1 : Nat) : Int)])) :: d, n) else none

theorem callPick_eq {l : List UInt8} {x : AC} {ix At : Nat} {m : Int} {B : List Seg} {d : Seg} {n : Nat} (hg : get (d :: B) ix = some (.cells 54 [x, .int .i64 (At : Int)])) (hm0 : 0 < m) (hm1 : m < 256) (hAt : At < 100000) :
    callPick l x ix 19 [.c (.ptr ix 0), .c (.int .i64 m)] B d n = some (.c (.int .i64 (pickV l At m.toNat : Nat)), (ix, some (.cells 54 [x, .int .i64 ((At + 1 : Nat) : Int)])) :: d, n) := by
  have h : 19 = 19 ∧ ∃ (At : Nat) (m' : Int), [AV.c (.ptr ix 0), .c (.int .i64 m)] = [.c (.ptr ix 0), .c (.int .i64 m')] ∧ 0 < m' ∧ m' < 256 ∧ At < 100000 ∧ get (d :: B) ix = some (.cells 54 [x, .int .i64 (At : Int)]) := ⟨rfl, At, m, rfl, hm0, hm1, hAt, hg⟩
  unfold callPick
  rw [dif_pos h]
  obtain ⟨q1, q2, q3, q4, q5⟩ := h.2.choose_spec.choose_spec
  have e1 : h.2.choose_spec.choose = m := (AC.int.inj (AV.c.inj (List.head_eq_of_cons_eq (List.tail_eq_of_cons_eq q1)))).2.symm
  have e2 : h.2.choose = At := Int.ofNat.inj (AC.int.inj (List.head_eq_of_cons_eq (List.tail_eq_of_cons_eq (AObj.cells.inj (Option.some.inj (hg.symm.trans q5))).2))).2.symm
  rw [e1, e2]

theorem callPick_ok {l : List UInt8} {x : AC} {ix : Nat} (hx : BytesIn mem x l) : CallOk Tryz.prog (lenv mem) B0 (callPick l x ix) := by
  intro f args B d n v d' n' al ρ w hc hrep hargs
  have hpl : x.plain = true := by
    rcases hx with ⟨rfl, _⟩ | ⟨a, cap, rfl, _⟩ <;> rfl
  unfold callPick at hc
  split at hc
  · rename_i h
    obtain ⟨rfl, At, m, rfl, hm0, hm1, hAt, hg⟩ := h
    have h' : 19 = 19 ∧ ∃ (At : Nat) (m' : Int), [AV.c (.ptr ix 0), .c (.int .i64 m)] = [.c (.ptr ix 0), .c (.int .i64 m')] ∧ 0 < m' ∧ m' < 256 ∧ At < 100000 ∧ get (d :: B) ix = some (.cells 54 [x, .int .i64 (At : Int)]) := ⟨rfl, At, m, rfl, hm0, hm1, hAt, hg⟩
    have e := callPick_eq (l := l) (n := n) hg hm0 hm1 hAt
    unfold callPick at e
    rw [dif_pos h'] at e
    rw [e] at hc
    cases hc
    have hset := callSet_ok (P := Tryz.prog) (E := lenv mem) (B0 := B0) (f := 19) (j := ix) (k := ix) (args := [.c (.ptr ix 0), .c (.int .i64 m)]) (oj := .cells 54 [x, .int .i64 (At : Int)]) (ok := .cells 54 [x, .int .i64 (At : Int)]) (o := .cells 54 [x, .int .i64 ((At + 1 : Nat) : Int)]) (v := .int .i64 (pickV l At m.toNat : Nat))
      (by simp only [AObj.plain, List.all_cons, List.all_nil, hpl, Bool.true_and, Bool.and_true]; rfl) rfl (fun d n q1 q2 => (pick_ok hx q1 hAt hm0 hm1).mono fun v' d' n' ⟨a1, a2, a3⟩ _ _ _ => ⟨a1, a3, ⟨[(ix, _)], a2, by simp⟩, by rw [a2, get_cons, if_pos rfl]⟩)
    exact hset _ _ B d n _ _ _ al ρ w (callSet_eq hg hg) hrep hargs
  · cases hc

end Go.Proofs.YtdpielghjaehbaaGreat.Ev
