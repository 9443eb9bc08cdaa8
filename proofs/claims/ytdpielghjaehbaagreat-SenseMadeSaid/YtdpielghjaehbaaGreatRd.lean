/- regletref02.Of: the number whose bytes these are. -/
import Derived.Test.YtdpielghjaehbaaGreatRa
set_option linter.unusedSectionVars false
set_option linter.unusedSimpArgs false
set_option linter.unusedVariables false
namespace Go.Proofs.YtdpielghjaehbaaGreat.Ev
open Go.RowKit

variable {mem : Nat → Nat → Option Value} {B0 : Nat}

theorem adds_import {d δ : Seg} {n : Nat} : Adds n d (shSeg n δ ++ d) := ⟨shSeg n δ, rfl, fun p hp => by
  obtain ⟨q, _, rfl⟩ := List.mem_map.1 hp
  simp⟩

theorem l_refBytes2 (c : Int) (d : Seg) (n : Nat) : CallsA Tryz.prog (lenv mem) B0 105 [.c (.int .i64 c)] d n fun v d' n' => ∃ y, Adds n d d' ∧ n ≤ n' ∧ v = .c y ∧ IntIn d' y (scalarBytes c) := by
  refine (callsA_import (E0 := senv fun _ _ => none) (R := fun v δ n0 => IntRow δ 0 v (scalarBytes c)) lenv_senv (fun b o v h => by cases h) (by simp [AV.ok, AC.ok]) (fun B => (refBytes2_ok c [] 0).mono fun v d' n' h _ _ _ => h.2.2) d n).mono ?_
  rintro v d' n' ⟨v0, δ, n0, h2, rfl, rfl, rfl, hl, _, _⟩ _ hle _
  obtain ⟨y, hy, hin⟩ := (intRow_import (n0 := n0) hl h2).in_
  exact ⟨y, adds_import, hle, hy, hin⟩

theorem l_refBytesA (c : Int) (utf : Bool) (d : Seg) (n : Nat) : CallsA Tryz.prog (lenv mem) B0 88 [.c (.int .i64 c), .c (.bool utf)] d n fun v d' n' => ∃ y, Adds n d d' ∧ n ≤ n' ∧ v = .c y ∧ IntIn d' y (senseBytes c utf) := by
  refine (callsA_import (E0 := senv fun _ _ => none) (R := fun v δ n0 => IntRow δ 0 v (senseBytes c utf)) lenv_senv (fun b o v h => by cases h) (by simp [AV.ok, AC.ok]) (fun B => (refBytes_ok c utf [] 0).mono fun v d' n' h _ _ _ => h.2.2) d n).mono ?_
  rintro v d' n' ⟨v0, δ, n0, h2, rfl, rfl, rfl, hl, _, _⟩ _ hle _
  obtain ⟨y, hy, hin⟩ := (intRow_import (n0 := n0) hl h2).in_
  exact ⟨y, adds_import, hle, hy, hin⟩

section
variable {P : Program} {E : Env} {call : CallF} {s : Slots} {d : Seg} {n : Nat} {K : List Fr} {Q : AX → Slots → Seg → Nat → Prop}

/-- A piece of code, and what is known behind it. -/
theorem code_cutR {a b : Code} (I : Slots → Seg → Nat → Prop) (ha : ∀ Q' : AX → Slots → Seg → Nat → Prop, (∀ s' d' n', I s' d' n' → Q' .norm s' d' n') → codeK P E B0 call a s d n [] Q')
    (hb : ∀ s' d' n', I s' d' n' → codeK P E B0 call b s' d' n' K Q) : codeK P E B0 call a s d n (.seq b :: K) Q :=
  ⟨(ha (runK P E B0 call Q (.seq b :: K)) fun s' d' n' hI => (hb s' d' n' hI).out).out⟩

end

def lead (u : List Int) : Int := if u.length = 2 then u.getD 0 0 % 32 else if u.length = 3 then u.getD 0 0 % 16 else if u.length = 4 then u.getD 0 0 % 8 else u.getD 0 0
def compTo (u : List Int) : Nat → Int
  | 0 => lead u
  | i + 1 => compTo u i * 64 + u.getD (i + 1) 0 % 64
/-- The number whose bytes these are, or none. -/
def ofL (u : List Int) : Int := if scalarBytes (compTo u (u.length - 1)) = u then compTo u (u.length - 1) else -1

theorem and_fin : ∀ z : Fin 256, (BitVec.ofInt 64 (z.val : Int) &&& BitVec.ofInt 64 31).toNat = z.val % 32 ∧ (BitVec.ofInt 64 (z.val : Int) &&& BitVec.ofInt 64 15).toNat = z.val % 16 ∧ (BitVec.ofInt 64 (z.val : Int) &&& BitVec.ofInt 64 7).toNat = z.val % 8 ∧ (BitVec.ofInt 64 (z.val : Int) &&& BitVec.ofInt 64 63).toNat = z.val % 64 := by
  decide +kernel

theorem and_mask {z : Int} (h0 : 0 ≤ z) (h1 : z < 256) : IntKind.i64.wrap ((BitVec.ofInt 64 z &&& BitVec.ofInt 64 31).toNat) = z % 32 ∧ IntKind.i64.wrap ((BitVec.ofInt 64 z &&& BitVec.ofInt 64 15).toNat) = z % 16 ∧ IntKind.i64.wrap ((BitVec.ofInt 64 z &&& BitVec.ofInt 64 7).toNat) = z % 8 ∧
    IntKind.i64.wrap ((BitVec.ofInt 64 z &&& BitVec.ofInt 64 63).toNat) = z % 64 := by
  obtain ⟨k, rfl⟩ : ∃ k : Nat, z = k := ⟨z.toNat, by omega⟩
  have := and_fin ⟨k, by omega⟩
  simp only at this
  rw [this.1, this.2.1, this.2.2.1, this.2.2.2]
  rw [wrap_id (by omega) (by omega), wrap_id (by omega) (by omega), wrap_id (by omega) (by omega), wrap_id (by omega) (by omega)]
  omega

theorem compTo_bound {u : List Int} (hu : ∀ z ∈ u, 0 ≤ z ∧ z < 256) : ∀ i, i < 4 → 0 ≤ compTo u i ∧ compTo u i < 100000000 := by
  have h0 : 0 ≤ u.getD 0 0 ∧ u.getD 0 0 < 256 := by
    cases u with
    | nil => simp
    | cons a u => exact hu a (List.mem_cons_self ..)
  have hl : 0 ≤ lead u ∧ lead u < 256 := by
    unfold lead
    repeat' split
    all_goals omega
  intro i hi
  match i, hi with
  | 0, _ => simp only [compTo]; omega
  | 1, _ => simp only [compTo]; omega
  | 2, _ => simp only [compTo]; omega
  | 3, _ => simp only [compTo]; omega
  | i + 4, h => omega

set_option maxRecDepth 20000 in
set_option maxHeartbeats 4000000 in
theorem of_ok {d : Seg} {n : Nat} {y : AC} {u : List Int} (hy : IntIn d y u) (hu : ∀ z ∈ u, 0 ≤ z ∧ z < 256) (hm1 : 1 ≤ u.length) (hm4 : u.length ≤ 4) :
    CallsA Tryz.prog (lenv mem) B0 90 [.c y] d n fun v d' n' => v = .c (.int .i64 (ofL u)) ∧ Adds n d d' := by
  refine callsA_code lenv_ok none1_ok Tryz.func90 rfl (by decide) rfl rfl (by simp) fun hl _ Q hQ => ?_
  rcases hy with ⟨rfl, rfl⟩ | ⟨hne0, j, rfl, hj⟩
  · simp at hm1
  have hjn := (hl j _ hj).1
  obtain ⟨z0, hz0g⟩ : ∃ z, u[0]? = some z := ⟨_, List.getElem?_eq_getElem (by omega)⟩
  have hz0 : (intsC u)[0]? = some (.int .i64 z0) := by simp [intsC, hz0g]
  have hz0d : u.getD 0 0 = z0 := by rw [List.getD_eq_getElem?_getD, hz0g]; rfl
  have hz0b := hu z0 (List.mem_of_getElem? hz0g)
  obtain ⟨am1, am2, am3, am4⟩ := and_mask hz0b.1 hz0b.2
  have q1 : ((u.length : Int) == 0) = false := by simp; omega
  have q2 : ¬ (u.length : Int) > 4 := by omega
  have q3 : (0 : Int) < u.length := by omega
  have t0 : Int.toNat 0 = 0 := rfl
  simp +decide -implicitDefEqProofs only [stp,code_seq,evWanted,evOp,val,absV,evBin,evConv,evBuiltin,cmpInt,vals,partsOf,isAggD,cellsOf,isAggV,Nat.reduceEqDiff,Nat.reduceLT,Nat.reduceBEq,Nat.reduceBNe,reduceCtorEq,if_true,if_false,reduceIte,forall_const,IntKind.bits,IntKind.signed,eq_self_iff_true,finalOf,resultOf,cellsGood,AC.isCell,senv_mem,lift, Tryz.f90, lty3,lty4,lty5,lty9,lty22,lty33,lty25,lty34,lty23,lty36,lty40,lty98,lty96,lty93,lty95,lty54,lty38,lty31, lenv_mem, none1, -code_seq]
  rw [code_seq]
  simp +decide -implicitDefEqProofs only [stp,code_seq,evWanted,evOp,val,absV,evBin,evConv,evBuiltin,cmpInt,vals,partsOf,isAggD,cellsOf,isAggV,Nat.reduceEqDiff,Nat.reduceLT,Nat.reduceBEq,Nat.reduceBNe,reduceCtorEq,if_true,if_false,reduceIte,forall_const,IntKind.bits,IntKind.signed,eq_self_iff_true,finalOf,resultOf,cellsGood,AC.isCell,senv_mem,lift, lty3,lty4,lty5,lty9,lty22,lty33,lty25,lty34,lty23,lty36,lty40,lty98,lty96,lty93,lty95,lty54,lty38,lty31, lenv_mem, none1, -code_seq]
  rw [code_seq]
  refine code_cutR (fun s' d' n' => s'.nt = 66 ∧ d' = d ∧ n' = n ∧ s'.get 0 = .c (.sl j u.length)) ?_ ?_
  · intro Q' hQ'
    simp +decide -implicitDefEqProofs only [stp,code_seq,evWanted,evOp,val,absV,evBin,evConv,evBuiltin,cmpInt,vals,partsOf,isAggD,cellsOf,isAggV,Nat.reduceEqDiff,Nat.reduceLT,Nat.reduceBEq,Nat.reduceBNe,reduceCtorEq,if_true,if_false,reduceIte,forall_const,IntKind.bits,IntKind.signed,eq_self_iff_true,finalOf,resultOf,cellsGood,AC.isCell,senv_mem,lift, lty3,lty4,lty5,lty9,lty22,lty33,lty25,lty34,lty23,lty36,lty40,lty98,lty96,lty93,lty95,lty54,lty38,lty31, lenv_mem, none1, q1, q2]
    refine hQ' _ _ _ ⟨by simp only [nt_put], rfl, rfl, ?_⟩
    simp +decide -implicitDefEqProofs only [stp,code_seq,evWanted,evOp,val,absV,evBin,evConv,evBuiltin,cmpInt,vals,partsOf,isAggD,cellsOf,isAggV,Nat.reduceEqDiff,Nat.reduceLT,Nat.reduceBEq,Nat.reduceBNe,reduceCtorEq,if_true,if_false,reduceIte,forall_const,IntKind.bits,IntKind.signed,eq_self_iff_true,finalOf,resultOf,cellsGood,AC.isCell,senv_mem,lift]
  rintro S d n ⟨hnt, rfl, rfl, g0⟩
  rw [code_seq]
  simp +decide -implicitDefEqProofs only [stp,code_seq,evWanted,evOp,val,absV,evBin,evConv,evBuiltin,cmpInt,vals,partsOf,isAggD,cellsOf,isAggV,Nat.reduceEqDiff,Nat.reduceLT,Nat.reduceBEq,Nat.reduceBNe,reduceCtorEq,if_true,if_false,reduceIte,forall_const,IntKind.bits,IntKind.signed,eq_self_iff_true,finalOf,resultOf,cellsGood,AC.isCell,senv_mem,lift, lty3,lty4,lty5,lty9,lty22,lty33,lty25,lty34,lty23,lty36,lty40,lty98,lty96,lty93,lty95,lty54,lty38,lty31, lenv_mem, none1, hnt, g0, q3, hj, hz0, t0, -code_seq]
  rw [code_seq]
  have g3 : True := trivial
  refine code_cutR (fun s' d' n' => s'.nt = 66 ∧ d' = d ∧ n' = n ∧ s'.get 0 = .c (.sl j u.length) ∧ s'.get 3 = .c (.int .i64 (lead u))) ?_ ?_
  · intro Q' hQ'
    rcases (show u.length = 1 ∨ u.length = 2 ∨ u.length = 3 ∨ u.length = 4 by omega) with hlen | hlen | hlen | hlen
    · simp +decide -implicitDefEqProofs only [stp,code_seq,evWanted,evOp,val,absV,evBin,evConv,evBuiltin,cmpInt,vals,partsOf,isAggD,cellsOf,isAggV,Nat.reduceEqDiff,Nat.reduceLT,Nat.reduceBEq,Nat.reduceBNe,reduceCtorEq,if_true,if_false,reduceIte,forall_const,IntKind.bits,IntKind.signed,eq_self_iff_true,finalOf,resultOf,cellsGood,AC.isCell,senv_mem,lift, lty3,lty4,lty5,lty9,lty22,lty33,lty25,lty34,lty23,lty36,lty40,lty98,lty96,lty93,lty95,lty54,lty38,lty31, lenv_mem, none1, hnt, g0, g3, hlen]
      refine hQ' _ _ _ ⟨by simp only [nt_put, hnt], rfl, rfl, ?_⟩
      simp +decide -implicitDefEqProofs only [stp,code_seq,evWanted,evOp,val,absV,evBin,evConv,evBuiltin,cmpInt,vals,partsOf,isAggD,cellsOf,isAggV,Nat.reduceEqDiff,Nat.reduceLT,Nat.reduceBEq,Nat.reduceBNe,reduceCtorEq,if_true,if_false,reduceIte,forall_const,IntKind.bits,IntKind.signed,eq_self_iff_true,finalOf,resultOf,cellsGood,AC.isCell,senv_mem,lift, hnt, g0, g3]
      rw [show lead u = z0 by unfold lead; rw [hz0d]; simp [hlen]]
    · have hwl : IntKind.i64.wrap (((2 : Nat) : Int) + 1) = 3 := rfl
      have hl : lead u = z0 % 32 := by unfold lead; rw [hz0d]; simp [hlen]
      have hsh : (255 : Int) / 2 ^ Int.toNat 3 = 31 := rfl
      have hb1 : (0 : Int) ≤ 3 := by omega
      have hb2 : (3 : Int) ≤ 8 := by omega
      simp +decide -implicitDefEqProofs only [stp,code_seq,evWanted,evOp,val,absV,evBin,evConv,evBuiltin,cmpInt,vals,partsOf,isAggD,cellsOf,isAggV,Nat.reduceEqDiff,Nat.reduceLT,Nat.reduceBEq,Nat.reduceBNe,reduceCtorEq,if_true,if_false,reduceIte,forall_const,IntKind.bits,IntKind.signed,eq_self_iff_true,finalOf,resultOf,cellsGood,AC.isCell,senv_mem,lift, lty3,lty4,lty5,lty9,lty22,lty33,lty25,lty34,lty23,lty36,lty40,lty98,lty96,lty93,lty95,lty54,lty38,lty31, lenv_mem, none1, hnt, g0, g3, hlen]
      apply code_drawn lenv_ok none1_ok (by decide) _ (by rfl)
      · simp +decide -implicitDefEqProofs only [stp,code_seq,evWanted,evOp,val,absV,evBin,evConv,evBuiltin,cmpInt,vals,partsOf,isAggD,cellsOf,isAggV,Nat.reduceEqDiff,Nat.reduceLT,Nat.reduceBEq,Nat.reduceBNe,reduceCtorEq,if_true,if_false,reduceIte,forall_const,IntKind.bits,IntKind.signed,eq_self_iff_true,finalOf,resultOf,cellsGood,AC.isCell,senv_mem,lift, flat,d_nil,d_cons,d_true,d_false,d_some,d_some1,slotsAt_get,slotsAt_nt,get_mk_cons,get_mk,wrs_nil,wrs_cons,wrs_none,get_heapAt,get_seen_nil,get_seen_cons,get_seen_one,List.cons_append,List.nil_append,Nat.reduceSub,Nat.reduceAdd,Nat.add_one_sub_one,bitOf, lty3,lty4,lty5,lty9,lty22,lty33,lty25,lty34,lty23,lty36,lty40,lty98,lty96,lty93,lty95,lty54,lty38,lty31, lenv_mem, none1, hnt, g0, g3, hlen, hj, hz0, hwl, hsh, t0, hb1, hb2, am1]
        rfl
      · rfl
      · simp +decide -implicitDefEqProofs only [stp,code_seq,evWanted,evOp,val,absV,evBin,evConv,evBuiltin,cmpInt,vals,partsOf,isAggD,cellsOf,isAggV,Nat.reduceEqDiff,Nat.reduceLT,Nat.reduceBEq,Nat.reduceBNe,reduceCtorEq,if_true,if_false,reduceIte,forall_const,IntKind.bits,IntKind.signed,eq_self_iff_true,finalOf,resultOf,cellsGood,AC.isCell,senv_mem,lift, flat,d_nil,d_cons,d_true,d_false,d_some,d_some1,slotsAt_get,slotsAt_nt,get_mk_cons,get_mk,wrs_nil,wrs_cons,wrs_none,get_heapAt,get_seen_nil,get_seen_cons,get_seen_one,List.cons_append,List.nil_append,Nat.reduceSub,Nat.reduceAdd,Nat.add_one_sub_one,bitOf, lty3,lty4,lty5,lty9,lty22,lty33,lty25,lty34,lty23,lty36,lty40,lty98,lty96,lty93,lty95,lty54,lty38,lty31, lenv_mem, none1, hnt, g0, g3, hlen]
        refine hQ' _ _ _ ⟨by simp only [nt_put, hnt], rfl, rfl, ?_⟩
        simp +decide -implicitDefEqProofs only [stp,code_seq,evWanted,evOp,val,absV,evBin,evConv,evBuiltin,cmpInt,vals,partsOf,isAggD,cellsOf,isAggV,Nat.reduceEqDiff,Nat.reduceLT,Nat.reduceBEq,Nat.reduceBNe,reduceCtorEq,if_true,if_false,reduceIte,forall_const,IntKind.bits,IntKind.signed,eq_self_iff_true,finalOf,resultOf,cellsGood,AC.isCell,senv_mem,lift, flat,d_nil,d_cons,d_true,d_false,d_some,d_some1,slotsAt_get,slotsAt_nt,get_mk_cons,get_mk,wrs_nil,wrs_cons,wrs_none,get_heapAt,get_seen_nil,get_seen_cons,get_seen_one,List.cons_append,List.nil_append,Nat.reduceSub,Nat.reduceAdd,Nat.add_one_sub_one,bitOf, hnt, g0, g3]
        exact congrArg (fun v => AV.c (AC.int .i64 v)) (am1.trans hl.symm)
    · have hwl : IntKind.i64.wrap (((3 : Nat) : Int) + 1) = 4 := rfl
      have hl : lead u = z0 % 16 := by unfold lead; rw [hz0d]; simp [hlen]
      have hsh : (255 : Int) / 2 ^ Int.toNat 4 = 15 := rfl
      have hb1 : (0 : Int) ≤ 4 := by omega
      have hb2 : (4 : Int) ≤ 8 := by omega
      simp +decide -implicitDefEqProofs only [stp,code_seq,evWanted,evOp,val,absV,evBin,evConv,evBuiltin,cmpInt,vals,partsOf,isAggD,cellsOf,isAggV,Nat.reduceEqDiff,Nat.reduceLT,Nat.reduceBEq,Nat.reduceBNe,reduceCtorEq,if_true,if_false,reduceIte,forall_const,IntKind.bits,IntKind.signed,eq_self_iff_true,finalOf,resultOf,cellsGood,AC.isCell,senv_mem,lift, lty3,lty4,lty5,lty9,lty22,lty33,lty25,lty34,lty23,lty36,lty40,lty98,lty96,lty93,lty95,lty54,lty38,lty31, lenv_mem, none1, hnt, g0, g3, hlen]
      apply code_drawn lenv_ok none1_ok (by decide) _ (by rfl)
      · simp +decide -implicitDefEqProofs only [stp,code_seq,evWanted,evOp,val,absV,evBin,evConv,evBuiltin,cmpInt,vals,partsOf,isAggD,cellsOf,isAggV,Nat.reduceEqDiff,Nat.reduceLT,Nat.reduceBEq,Nat.reduceBNe,reduceCtorEq,if_true,if_false,reduceIte,forall_const,IntKind.bits,IntKind.signed,eq_self_iff_true,finalOf,resultOf,cellsGood,AC.isCell,senv_mem,lift, flat,d_nil,d_cons,d_true,d_false,d_some,d_some1,slotsAt_get,slotsAt_nt,get_mk_cons,get_mk,wrs_nil,wrs_cons,wrs_none,get_heapAt,get_seen_nil,get_seen_cons,get_seen_one,List.cons_append,List.nil_append,Nat.reduceSub,Nat.reduceAdd,Nat.add_one_sub_one,bitOf, lty3,lty4,lty5,lty9,lty22,lty33,lty25,lty34,lty23,lty36,lty40,lty98,lty96,lty93,lty95,lty54,lty38,lty31, lenv_mem, none1, hnt, g0, g3, hlen, hj, hz0, hwl, hsh, t0, hb1, hb2, am2]
        rfl
      · rfl
      · simp +decide -implicitDefEqProofs only [stp,code_seq,evWanted,evOp,val,absV,evBin,evConv,evBuiltin,cmpInt,vals,partsOf,isAggD,cellsOf,isAggV,Nat.reduceEqDiff,Nat.reduceLT,Nat.reduceBEq,Nat.reduceBNe,reduceCtorEq,if_true,if_false,reduceIte,forall_const,IntKind.bits,IntKind.signed,eq_self_iff_true,finalOf,resultOf,cellsGood,AC.isCell,senv_mem,lift, flat,d_nil,d_cons,d_true,d_false,d_some,d_some1,slotsAt_get,slotsAt_nt,get_mk_cons,get_mk,wrs_nil,wrs_cons,wrs_none,get_heapAt,get_seen_nil,get_seen_cons,get_seen_one,List.cons_append,List.nil_append,Nat.reduceSub,Nat.reduceAdd,Nat.add_one_sub_one,bitOf, lty3,lty4,lty5,lty9,lty22,lty33,lty25,lty34,lty23,lty36,lty40,lty98,lty96,lty93,lty95,lty54,lty38,lty31, lenv_mem, none1, hnt, g0, g3, hlen]
        refine hQ' _ _ _ ⟨by simp only [nt_put, hnt], rfl, rfl, ?_⟩
        simp +decide -implicitDefEqProofs only [stp,code_seq,evWanted,evOp,val,absV,evBin,evConv,evBuiltin,cmpInt,vals,partsOf,isAggD,cellsOf,isAggV,Nat.reduceEqDiff,Nat.reduceLT,Nat.reduceBEq,Nat.reduceBNe,reduceCtorEq,if_true,if_false,reduceIte,forall_const,IntKind.bits,IntKind.signed,eq_self_iff_true,finalOf,resultOf,cellsGood,AC.isCell,senv_mem,lift, flat,d_nil,d_cons,d_true,d_false,d_some,d_some1,slotsAt_get,slotsAt_nt,get_mk_cons,get_mk,wrs_nil,wrs_cons,wrs_none,get_heapAt,get_seen_nil,get_seen_cons,get_seen_one,List.cons_append,List.nil_append,Nat.reduceSub,Nat.reduceAdd,Nat.add_one_sub_one,bitOf, hnt, g0, g3]
        exact congrArg (fun v => AV.c (AC.int .i64 v)) (am2.trans hl.symm)
    · have hwl : IntKind.i64.wrap (((4 : Nat) : Int) + 1) = 5 := rfl
      have hl : lead u = z0 % 8 := by unfold lead; rw [hz0d]; simp [hlen]
      have hsh : (255 : Int) / 2 ^ Int.toNat 5 = 7 := rfl
      have hb1 : (0 : Int) ≤ 5 := by omega
      have hb2 : (5 : Int) ≤ 8 := by omega
      simp +decide -implicitDefEqProofs only [stp,code_seq,evWanted,evOp,val,absV,evBin,evConv,evBuiltin,cmpInt,vals,partsOf,isAggD,cellsOf,isAggV,Nat.reduceEqDiff,Nat.reduceLT,Nat.reduceBEq,Nat.reduceBNe,reduceCtorEq,if_true,if_false,reduceIte,forall_const,IntKind.bits,IntKind.signed,eq_self_iff_true,finalOf,resultOf,cellsGood,AC.isCell,senv_mem,lift, lty3,lty4,lty5,lty9,lty22,lty33,lty25,lty34,lty23,lty36,lty40,lty98,lty96,lty93,lty95,lty54,lty38,lty31, lenv_mem, none1, hnt, g0, g3, hlen]
      apply code_drawn lenv_ok none1_ok (by decide) _ (by rfl)
      · simp +decide -implicitDefEqProofs only [stp,code_seq,evWanted,evOp,val,absV,evBin,evConv,evBuiltin,cmpInt,vals,partsOf,isAggD,cellsOf,isAggV,Nat.reduceEqDiff,Nat.reduceLT,Nat.reduceBEq,Nat.reduceBNe,reduceCtorEq,if_true,if_false,reduceIte,forall_const,IntKind.bits,IntKind.signed,eq_self_iff_true,finalOf,resultOf,cellsGood,AC.isCell,senv_mem,lift, flat,d_nil,d_cons,d_true,d_false,d_some,d_some1,slotsAt_get,slotsAt_nt,get_mk_cons,get_mk,wrs_nil,wrs_cons,wrs_none,get_heapAt,get_seen_nil,get_seen_cons,get_seen_one,List.cons_append,List.nil_append,Nat.reduceSub,Nat.reduceAdd,Nat.add_one_sub_one,bitOf, lty3,lty4,lty5,lty9,lty22,lty33,lty25,lty34,lty23,lty36,lty40,lty98,lty96,lty93,lty95,lty54,lty38,lty31, lenv_mem, none1, hnt, g0, g3, hlen, hj, hz0, hwl, hsh, t0, hb1, hb2, am3]
        rfl
      · rfl
      · simp +decide -implicitDefEqProofs only [stp,code_seq,evWanted,evOp,val,absV,evBin,evConv,evBuiltin,cmpInt,vals,partsOf,isAggD,cellsOf,isAggV,Nat.reduceEqDiff,Nat.reduceLT,Nat.reduceBEq,Nat.reduceBNe,reduceCtorEq,if_true,if_false,reduceIte,forall_const,IntKind.bits,IntKind.signed,eq_self_iff_true,finalOf,resultOf,cellsGood,AC.isCell,senv_mem,lift, flat,d_nil,d_cons,d_true,d_false,d_some,d_some1,slotsAt_get,slotsAt_nt,get_mk_cons,get_mk,wrs_nil,wrs_cons,wrs_none,get_heapAt,get_seen_nil,get_seen_cons,get_seen_one,List.cons_append,List.nil_append,Nat.reduceSub,Nat.reduceAdd,Nat.add_one_sub_one,bitOf, lty3,lty4,lty5,lty9,lty22,lty33,lty25,lty34,lty23,lty36,lty40,lty98,lty96,lty93,lty95,lty54,lty38,lty31, lenv_mem, none1, hnt, g0, g3, hlen]
        refine hQ' _ _ _ ⟨by simp only [nt_put, hnt], rfl, rfl, ?_⟩
        simp +decide -implicitDefEqProofs only [stp,code_seq,evWanted,evOp,val,absV,evBin,evConv,evBuiltin,cmpInt,vals,partsOf,isAggD,cellsOf,isAggV,Nat.reduceEqDiff,Nat.reduceLT,Nat.reduceBEq,Nat.reduceBNe,reduceCtorEq,if_true,if_false,reduceIte,forall_const,IntKind.bits,IntKind.signed,eq_self_iff_true,finalOf,resultOf,cellsGood,AC.isCell,senv_mem,lift, flat,d_nil,d_cons,d_true,d_false,d_some,d_some1,slotsAt_get,slotsAt_nt,get_mk_cons,get_mk,wrs_nil,wrs_cons,wrs_none,get_heapAt,get_seen_nil,get_seen_cons,get_seen_one,List.cons_append,List.nil_append,Nat.reduceSub,Nat.reduceAdd,Nat.add_one_sub_one,bitOf, hnt, g0, g3]
        exact congrArg (fun v => AV.c (AC.int .i64 v)) (am3.trans hl.symm)
  clear g3
  rintro S d n ⟨hnt, rfl, rfl, g0, g3⟩
  simp +decide -implicitDefEqProofs only [stp,code_seq,evWanted,evOp,val,absV,evBin,evConv,evBuiltin,cmpInt,vals,partsOf,isAggD,cellsOf,isAggV,Nat.reduceEqDiff,Nat.reduceLT,Nat.reduceBEq,Nat.reduceBNe,reduceCtorEq,if_true,if_false,reduceIte,forall_const,IntKind.bits,IntKind.signed,eq_self_iff_true,finalOf,resultOf,cellsGood,AC.isCell,senv_mem,lift, lty3,lty4,lty5,lty9,lty22,lty33,lty25,lty34,lty23,lty36,lty40,lty98,lty96,lty93,lty95,lty54,lty38,lty31, lenv_mem, none1, hnt, g0, g3]
  refine code_loop lenv_ok none1_ok (fun q s d' n' => s.nt = 66 ∧ d' = d ∧ n' = n ∧ ∃ i : Nat, i + q + 1 = u.length ∧ s.get 0 = .c (.sl j u.length) ∧ s.get 3 = .c (.int .i64 (compTo u i)) ∧ s.get 4 = .c (.int .i64 ((i + 1 : Nat) : Int))) (u.length - 1) ?_ ?_
  · refine ⟨by simp only [nt_put, hnt], rfl, rfl, 0, by omega, ?_⟩
    simp +decide -implicitDefEqProofs only [stp,code_seq,evWanted,evOp,val,absV,evBin,evConv,evBuiltin,cmpInt,vals,partsOf,isAggD,cellsOf,isAggV,Nat.reduceEqDiff,Nat.reduceLT,Nat.reduceBEq,Nat.reduceBNe,reduceCtorEq,if_true,if_false,reduceIte,forall_const,IntKind.bits,IntKind.signed,eq_self_iff_true,finalOf,resultOf,cellsGood,AC.isCell,senv_mem,lift, hnt, g0, g3]
    exact ⟨rfl, rfl⟩
  clear hnt g0 g3
  rintro q s d n ⟨hnt, rfl, rfl, i, hiq, g0, g3, g4⟩ hl2 hs2 Q' hQ1 hQ2
  have hbd := compTo_bound hu i (by omega)
  by_cases h1 : ((i + 1 : Nat) : Int) < u.length
  · obtain ⟨z, hz⟩ : ∃ z, u[i + 1]? = some z := ⟨_, List.getElem?_eq_getElem (by omega)⟩
    have hzc : (intsC u)[i + 1]? = some (.int .i64 z) := by simp [intsC, hz]
    have hzb := hu z (List.mem_of_getElem? hz)
    have hm := (and_mask hzb.1 hzb.2).2.2.2
    have hi0 : (0 : Int) ≤ ((i + 1 : Nat) : Int) := by omega
    have hw1 : IntKind.i64.wrap (compTo u i * 64) = compTo u i * 64 := wrap_id (by omega) (by omega)
    have hw2 : IntKind.i64.wrap (compTo u i * 64 + z % 64) = compTo u (i + 1) := by
      rw [wrap_id (by omega) (by omega), compTo]
      simp [hz]
    simp +decide -implicitDefEqProofs only [stp,code_seq,evWanted,evOp,val,absV,evBin,evConv,evBuiltin,cmpInt,vals,partsOf,isAggD,cellsOf,isAggV,Nat.reduceEqDiff,Nat.reduceLT,Nat.reduceBEq,Nat.reduceBNe,reduceCtorEq,if_true,if_false,reduceIte,forall_const,IntKind.bits,IntKind.signed,eq_self_iff_true,finalOf,resultOf,cellsGood,AC.isCell,senv_mem,lift, lty3,lty4,lty5,lty9,lty22,lty33,lty25,lty34,lty23,lty36,lty40,lty98,lty96,lty93,lty95,lty54,lty38,lty31, lenv_mem, none1, hnt, g0, g3, g4, h1, hi0, hj, hzc, Int.toNat_natCast, hm, hw1, hw2]
    refine hQ1 (q - 1) _ _ _ (by omega) ⟨by simp only [nt_put, hnt], rfl, rfl, i + 1, by omega, ?_⟩
    simp +decide -implicitDefEqProofs only [stp,code_seq,evWanted,evOp,val,absV,evBin,evConv,evBuiltin,cmpInt,vals,partsOf,isAggD,cellsOf,isAggV,Nat.reduceEqDiff,Nat.reduceLT,Nat.reduceBEq,Nat.reduceBNe,reduceCtorEq,if_true,if_false,reduceIte,forall_const,IntKind.bits,IntKind.signed,eq_self_iff_true,finalOf,resultOf,cellsGood,AC.isCell,senv_mem,lift, hnt, g0, g3]
    rw [wrap_succ (by omega)]
    exact ⟨congrArg (fun v => AV.c (AC.int .i64 v)) ((congrArg (fun v => IntKind.i64.wrap (compTo u i * 64 + v)) hm).trans hw2), rfl⟩
  · have hi : i = u.length - 1 := by omega
    simp +decide -implicitDefEqProofs only [stp,code_seq,evWanted,evOp,val,absV,evBin,evConv,evBuiltin,cmpInt,vals,partsOf,isAggD,cellsOf,isAggV,Nat.reduceEqDiff,Nat.reduceLT,Nat.reduceBEq,Nat.reduceBNe,reduceCtorEq,if_true,if_false,reduceIte,forall_const,IntKind.bits,IntKind.signed,eq_self_iff_true,finalOf,resultOf,cellsGood,AC.isCell,senv_mem,lift, lty3,lty4,lty5,lty9,lty22,lty33,lty25,lty34,lty23,lty36,lty40,lty98,lty96,lty93,lty95,lty54,lty38,lty31, lenv_mem, none1, hnt, g0, g3, g4, h1]
    refine hQ2 _ _ _ _ (by simp) ?_
    rw [hi] at g3
    simp +decide -implicitDefEqProofs only [stp,code_seq,evWanted,evOp,val,absV,evBin,evConv,evBuiltin,cmpInt,vals,partsOf,isAggD,cellsOf,isAggV,Nat.reduceEqDiff,Nat.reduceLT,Nat.reduceBEq,Nat.reduceBNe,reduceCtorEq,if_true,if_false,reduceIte,forall_const,IntKind.bits,IntKind.signed,eq_self_iff_true,finalOf,resultOf,cellsGood,AC.isCell,senv_mem,lift, lty3,lty4,lty5,lty9,lty22,lty33,lty25,lty34,lty23,lty36,lty40,lty98,lty96,lty93,lty95,lty54,lty38,lty31, lenv_mem, none1, hnt, g0, g3]
    refine call_mono (l_refBytes2 (compTo u (u.length - 1)) _ _) fun v d3 n3 hR hl3 hle3 hok3 => ?_
    obtain ⟨y2, hA, _, rfl, hin⟩ := hR
    have hj3 := (hA.keeps j hjn).trans hj
    obtain ⟨w, hw⟩ : ∃ w, scalarBytes (compTo u (u.length - 1)) = w := ⟨_, rfl⟩
    rw [hw] at hin
    by_cases hlw : w.length = u.length
    · have hne : ((w.length : Int) != u.length) = false := by simp [bne]; omega
      rcases hin with ⟨rfl, rfl⟩ | ⟨hwn, j2, rfl, hj2⟩
      · simp at hlw; omega
      simp +decide -implicitDefEqProofs only [stp,code_seq,evWanted,evOp,val,absV,evBin,evConv,evBuiltin,cmpInt,vals,partsOf,isAggD,cellsOf,isAggV,Nat.reduceEqDiff,Nat.reduceLT,Nat.reduceBEq,Nat.reduceBNe,reduceCtorEq,if_true,if_false,reduceIte,forall_const,IntKind.bits,IntKind.signed,eq_self_iff_true,finalOf,resultOf,cellsGood,AC.isCell,senv_mem,lift, lty3,lty4,lty5,lty9,lty22,lty33,lty25,lty34,lty23,lty36,lty40,lty98,lty96,lty93,lty95,lty54,lty38,lty31, lenv_mem, none1, hnt, g0, g3, hne]
      refine code_loop lenv_ok none1_ok (fun q s d' n' => s.nt = 66 ∧ d' = d3 ∧ n' = n3 ∧ ∃ i : Nat, i + q = u.length ∧ s.get 0 = .c (.sl j u.length) ∧ s.get 3 = .c (.int .i64 (compTo u (u.length - 1))) ∧ s.get 5 = .c (.sl j2 w.length) ∧ s.get 6 = .c (.int .i64 i) ∧ w.take i = u.take i) u.length ?_ ?_
      · refine ⟨by simp only [nt_put, hnt], rfl, rfl, 0, by omega, ?_⟩
        simp +decide -implicitDefEqProofs only [stp,code_seq,evWanted,evOp,val,absV,evBin,evConv,evBuiltin,cmpInt,vals,partsOf,isAggD,cellsOf,isAggV,Nat.reduceEqDiff,Nat.reduceLT,Nat.reduceBEq,Nat.reduceBNe,reduceCtorEq,if_true,if_false,reduceIte,forall_const,IntKind.bits,IntKind.signed,eq_self_iff_true,finalOf,resultOf,cellsGood,AC.isCell,senv_mem,lift, hnt, g0, g3]
        exact ⟨rfl, by simp⟩
      clear hnt g0 g3 g4
      rintro q s d3 n3 ⟨hnt, rfl, rfl, i, hiq, g0, g3, g5, g6, htk⟩ hl2 hs2 Q2 hP1 hP2
      by_cases h2 : (i : Int) < u.length
      · obtain ⟨z, hz⟩ : ∃ z, u[i]? = some z := ⟨_, List.getElem?_eq_getElem (by omega)⟩
        obtain ⟨x, hx⟩ : ∃ x, w[i]? = some x := ⟨_, List.getElem?_eq_getElem (by omega)⟩
        have hzc : (intsC u)[i]? = some (.int .i64 z) := by simp [intsC, hz]
        have hxc : (intsC w)[i]? = some (.int .i64 x) := by simp [intsC, hx]
        have hi0 : (0 : Int) ≤ (i : Int) := by omega
        have h2w : (i : Int) < w.length := by omega
        simp +decide -implicitDefEqProofs only [stp,code_seq,evWanted,evOp,val,absV,evBin,evConv,evBuiltin,cmpInt,vals,partsOf,isAggD,cellsOf,isAggV,Nat.reduceEqDiff,Nat.reduceLT,Nat.reduceBEq,Nat.reduceBNe,reduceCtorEq,if_true,if_false,reduceIte,forall_const,IntKind.bits,IntKind.signed,eq_self_iff_true,finalOf,resultOf,cellsGood,AC.isCell,senv_mem,lift, lty3,lty4,lty5,lty9,lty22,lty33,lty25,lty34,lty23,lty36,lty40,lty98,lty96,lty93,lty95,lty54,lty38,lty31, lenv_mem, none1, hnt, g0, g3, g5, g6, h2]
        apply code_drawn lenv_ok none1_ok (by decide) _ (by rfl)
        · simp +decide -implicitDefEqProofs only [stp,code_seq,evWanted,evOp,val,absV,evBin,evConv,evBuiltin,cmpInt,vals,partsOf,isAggD,cellsOf,isAggV,Nat.reduceEqDiff,Nat.reduceLT,Nat.reduceBEq,Nat.reduceBNe,reduceCtorEq,if_true,if_false,reduceIte,forall_const,IntKind.bits,IntKind.signed,eq_self_iff_true,finalOf,resultOf,cellsGood,AC.isCell,senv_mem,lift, flat,d_nil,d_cons,d_true,d_false,d_some,d_some1,slotsAt_get,slotsAt_nt,get_mk_cons,get_mk,wrs_nil,wrs_cons,wrs_none,get_heapAt,get_seen_nil,get_seen_cons,get_seen_one,List.cons_append,List.nil_append,Nat.reduceSub,Nat.reduceAdd,Nat.add_one_sub_one,bitOf, lty3,lty4,lty5,lty9,lty22,lty33,lty25,lty34,lty23,lty36,lty40,lty98,lty96,lty93,lty95,lty54,lty38,lty31, lenv_mem, none1, hnt, g0, g3, g5, g6, h2, h2w, hi0, hj3, hj2, hzc, hxc, Int.toNat_natCast]
          rfl
        · rfl
        · by_cases hxz : x = z
          · have hne : (x != z) = false := by simp [bne, hxz]
            simp +decide -implicitDefEqProofs only [stp,code_seq,evWanted,evOp,val,absV,evBin,evConv,evBuiltin,cmpInt,vals,partsOf,isAggD,cellsOf,isAggV,Nat.reduceEqDiff,Nat.reduceLT,Nat.reduceBEq,Nat.reduceBNe,reduceCtorEq,if_true,if_false,reduceIte,forall_const,IntKind.bits,IntKind.signed,eq_self_iff_true,finalOf,resultOf,cellsGood,AC.isCell,senv_mem,lift, flat,d_nil,d_cons,d_true,d_false,d_some,d_some1,slotsAt_get,slotsAt_nt,get_mk_cons,get_mk,wrs_nil,wrs_cons,wrs_none,get_heapAt,get_seen_nil,get_seen_cons,get_seen_one,List.cons_append,List.nil_append,Nat.reduceSub,Nat.reduceAdd,Nat.add_one_sub_one,bitOf, lty3,lty4,lty5,lty9,lty22,lty33,lty25,lty34,lty23,lty36,lty40,lty98,lty96,lty93,lty95,lty54,lty38,lty31, lenv_mem, none1, hnt, g0, g3, g5, g6, hne]
            refine hP1 (q - 1) _ _ _ (by omega) ⟨by simp only [nt_put, hnt], rfl, rfl, i + 1, by omega, ?_⟩
            simp +decide -implicitDefEqProofs only [stp,code_seq,evWanted,evOp,val,absV,evBin,evConv,evBuiltin,cmpInt,vals,partsOf,isAggD,cellsOf,isAggV,Nat.reduceEqDiff,Nat.reduceLT,Nat.reduceBEq,Nat.reduceBNe,reduceCtorEq,if_true,if_false,reduceIte,forall_const,IntKind.bits,IntKind.signed,eq_self_iff_true,finalOf,resultOf,cellsGood,AC.isCell,senv_mem,lift, flat,d_nil,d_cons,d_true,d_false,d_some,d_some1,slotsAt_get,slotsAt_nt,get_mk_cons,get_mk,wrs_nil,wrs_cons,wrs_none,get_heapAt,get_seen_nil,get_seen_cons,get_seen_one,List.cons_append,List.nil_append,Nat.reduceSub,Nat.reduceAdd,Nat.add_one_sub_one,bitOf, hnt, g0, g3, g5]
            rw [wrap_succ (by omega)]
            exact ⟨rfl, by rw [List.take_add_one, List.take_add_one, htk, hz, hx, hxz]⟩
          · have hne : (x != z) = true := by simpa [bne] using hxz
            have hof : ofL u = -1 := by
              unfold ofL
              rw [hw, if_neg]
              rintro rfl
              rw [hx] at hz
              exact hxz (by simpa using hz)
            simp +decide -implicitDefEqProofs only [stp,code_seq,evWanted,evOp,val,absV,evBin,evConv,evBuiltin,cmpInt,vals,partsOf,isAggD,cellsOf,isAggV,Nat.reduceEqDiff,Nat.reduceLT,Nat.reduceBEq,Nat.reduceBNe,reduceCtorEq,if_true,if_false,reduceIte,forall_const,IntKind.bits,IntKind.signed,eq_self_iff_true,finalOf,resultOf,cellsGood,AC.isCell,senv_mem,lift, flat,d_nil,d_cons,d_true,d_false,d_some,d_some1,slotsAt_get,slotsAt_nt,get_mk_cons,get_mk,wrs_nil,wrs_cons,wrs_none,get_heapAt,get_seen_nil,get_seen_cons,get_seen_one,List.cons_append,List.nil_append,Nat.reduceSub,Nat.reduceAdd,Nat.add_one_sub_one,bitOf, lty3,lty4,lty5,lty9,lty22,lty33,lty25,lty34,lty23,lty36,lty40,lty98,lty96,lty93,lty95,lty54,lty38,lty31, lenv_mem, none1, hnt, g0, g3, g5, g6, hne]
            refine hP2 _ _ _ _ (by simp) ?_
            simp +decide -implicitDefEqProofs only [stp,code_seq,evWanted,evOp,val,absV,evBin,evConv,evBuiltin,cmpInt,vals,partsOf,isAggD,cellsOf,isAggV,Nat.reduceEqDiff,Nat.reduceLT,Nat.reduceBEq,Nat.reduceBNe,reduceCtorEq,if_true,if_false,reduceIte,forall_const,IntKind.bits,IntKind.signed,eq_self_iff_true,finalOf,resultOf,cellsGood,AC.isCell,senv_mem,lift, flat,d_nil,d_cons,d_true,d_false,d_some,d_some1,slotsAt_get,slotsAt_nt,get_mk_cons,get_mk,wrs_nil,wrs_cons,wrs_none,get_heapAt,get_seen_nil,get_seen_cons,get_seen_one,List.cons_append,List.nil_append,Nat.reduceSub,Nat.reduceAdd,Nat.add_one_sub_one,bitOf, lty3,lty4,lty5,lty9,lty22,lty33,lty25,lty34,lty23,lty36,lty40,lty98,lty96,lty93,lty95,lty54,lty38,lty31, lenv_mem, none1, hnt, g0, g3, g5, g6]
            refine hQ _ _ _ _ (.c (.int .i64 (ofL u))) (by simp) ?_ ⟨rfl, hA⟩
            simp +decide -implicitDefEqProofs only [stp,code_seq,evWanted,evOp,val,absV,evBin,evConv,evBuiltin,cmpInt,vals,partsOf,isAggD,cellsOf,isAggV,Nat.reduceEqDiff,Nat.reduceLT,Nat.reduceBEq,Nat.reduceBNe,reduceCtorEq,if_true,if_false,reduceIte,forall_const,IntKind.bits,IntKind.signed,eq_self_iff_true,finalOf,resultOf,cellsGood,AC.isCell,senv_mem,lift, flat,d_nil,d_cons,d_true,d_false,d_some,d_some1,slotsAt_get,slotsAt_nt,get_mk_cons,get_mk,wrs_nil,wrs_cons,wrs_none,get_heapAt,get_seen_nil,get_seen_cons,get_seen_one,List.cons_append,List.nil_append,Nat.reduceSub,Nat.reduceAdd,Nat.add_one_sub_one,bitOf, Tryz.f90, hnt]
            rw [hof]
      · have hof : ofL u = compTo u (u.length - 1) := by
          unfold ofL
          rw [hw, if_pos]
          rw [show i = u.length by omega, List.take_length, ← hlw, List.take_length] at htk
          exact htk
        simp +decide -implicitDefEqProofs only [stp,code_seq,evWanted,evOp,val,absV,evBin,evConv,evBuiltin,cmpInt,vals,partsOf,isAggD,cellsOf,isAggV,Nat.reduceEqDiff,Nat.reduceLT,Nat.reduceBEq,Nat.reduceBNe,reduceCtorEq,if_true,if_false,reduceIte,forall_const,IntKind.bits,IntKind.signed,eq_self_iff_true,finalOf,resultOf,cellsGood,AC.isCell,senv_mem,lift, lty3,lty4,lty5,lty9,lty22,lty33,lty25,lty34,lty23,lty36,lty40,lty98,lty96,lty93,lty95,lty54,lty38,lty31, lenv_mem, none1, hnt, g0, g3, g5, g6, h2]
        refine hP2 _ _ _ _ (by simp) ?_
        simp +decide -implicitDefEqProofs only [stp,code_seq,evWanted,evOp,val,absV,evBin,evConv,evBuiltin,cmpInt,vals,partsOf,isAggD,cellsOf,isAggV,Nat.reduceEqDiff,Nat.reduceLT,Nat.reduceBEq,Nat.reduceBNe,reduceCtorEq,if_true,if_false,reduceIte,forall_const,IntKind.bits,IntKind.signed,eq_self_iff_true,finalOf,resultOf,cellsGood,AC.isCell,senv_mem,lift, lty3,lty4,lty5,lty9,lty22,lty33,lty25,lty34,lty23,lty36,lty40,lty98,lty96,lty93,lty95,lty54,lty38,lty31, lenv_mem, none1, hnt, g0, g3, g5, g6]
        refine hQ _ _ _ _ (.c (.int .i64 (ofL u))) (by simp) ?_ ⟨rfl, hA⟩
        simp +decide -implicitDefEqProofs only [stp,code_seq,evWanted,evOp,val,absV,evBin,evConv,evBuiltin,cmpInt,vals,partsOf,isAggD,cellsOf,isAggV,Nat.reduceEqDiff,Nat.reduceLT,Nat.reduceBEq,Nat.reduceBNe,reduceCtorEq,if_true,if_false,reduceIte,forall_const,IntKind.bits,IntKind.signed,eq_self_iff_true,finalOf,resultOf,cellsGood,AC.isCell,senv_mem,lift, Tryz.f90, hnt]
        rw [hof]
    · have hof : ofL u = -1 := by
        unfold ofL
        rw [hw, if_neg]
        rintro rfl
        exact hlw rfl
      rcases hin with ⟨rfl, rfl⟩ | ⟨hwn, j2, rfl, hj2⟩
      · have hne : ((0 : Int) != u.length) = true := by simp [bne]; omega
        simp +decide -implicitDefEqProofs only [stp,code_seq,evWanted,evOp,val,absV,evBin,evConv,evBuiltin,cmpInt,vals,partsOf,isAggD,cellsOf,isAggV,Nat.reduceEqDiff,Nat.reduceLT,Nat.reduceBEq,Nat.reduceBNe,reduceCtorEq,if_true,if_false,reduceIte,forall_const,IntKind.bits,IntKind.signed,eq_self_iff_true,finalOf,resultOf,cellsGood,AC.isCell,senv_mem,lift, lty3,lty4,lty5,lty9,lty22,lty33,lty25,lty34,lty23,lty36,lty40,lty98,lty96,lty93,lty95,lty54,lty38,lty31, lenv_mem, none1, hnt, g0, g3, hne]
        refine hQ _ _ _ _ (.c (.int .i64 (ofL u))) (by simp) ?_ ⟨rfl, hA⟩
        simp +decide -implicitDefEqProofs only [stp,code_seq,evWanted,evOp,val,absV,evBin,evConv,evBuiltin,cmpInt,vals,partsOf,isAggD,cellsOf,isAggV,Nat.reduceEqDiff,Nat.reduceLT,Nat.reduceBEq,Nat.reduceBNe,reduceCtorEq,if_true,if_false,reduceIte,forall_const,IntKind.bits,IntKind.signed,eq_self_iff_true,finalOf,resultOf,cellsGood,AC.isCell,senv_mem,lift, Tryz.f90, hnt]
        rw [hof]
      · have hne : ((w.length : Int) != u.length) = true := by simp [bne]; omega
        simp +decide -implicitDefEqProofs only [stp,code_seq,evWanted,evOp,val,absV,evBin,evConv,evBuiltin,cmpInt,vals,partsOf,isAggD,cellsOf,isAggV,Nat.reduceEqDiff,Nat.reduceLT,Nat.reduceBEq,Nat.reduceBNe,reduceCtorEq,if_true,if_false,reduceIte,forall_const,IntKind.bits,IntKind.signed,eq_self_iff_true,finalOf,resultOf,cellsGood,AC.isCell,senv_mem,lift, lty3,lty4,lty5,lty9,lty22,lty33,lty25,lty34,lty23,lty36,lty40,lty98,lty96,lty93,lty95,lty54,lty38,lty31, lenv_mem, none1, hnt, g0, g3, hne]
        refine hQ _ _ _ _ (.c (.int .i64 (ofL u))) (by simp) ?_ ⟨rfl, hA⟩
        simp +decide -implicitDefEqProofs only [stp,code_seq,evWanted,evOp,val,absV,evBin,evConv,evBuiltin,cmpInt,vals,partsOf,isAggD,cellsOf,isAggV,Nat.reduceEqDiff,Nat.reduceLT,Nat.reduceBEq,Nat.reduceBNe,reduceCtorEq,if_true,if_false,reduceIte,forall_const,IntKind.bits,IntKind.signed,eq_self_iff_true,finalOf,resultOf,cellsGood,AC.isCell,senv_mem,lift, Tryz.f90, hnt]
        rw [hof]

end Go.Proofs.YtdpielghjaehbaaGreat.Ev

/- A span: what the program finds by one rune the document finds by bytes. -/
set_option linter.unusedSectionVars false
set_option linter.unusedSimpArgs false
set_option linter.unusedVariables false
namespace Go.Proofs.YtdpielghjaehbaaGreat.Ev
open Go.RowKit

theorem ba_get {l : List UInt8} {i : Nat} {b : UInt8} (h : l[i]? = some b) : (⟨l.toArray⟩ : ByteArray).get! i = b := by
  obtain ⟨hi, rfl⟩ := List.getElem?_eq_some_iff.1 h
  show l.toArray[i]! = l[i]
  simp [getElem!_def, hi]

theorem ba_size {l : List UInt8} : (⟨l.toArray⟩ : ByteArray).size = l.length := by simp [ByteArray.size]

theorem scalar_ref {c : Int} (h : isScalarB c = true) : scalarBytes c = refList c := by rw [scalarBytes, h, if_pos rfl, utf8_eq h]

theorem scalar_pos {c : Int} (h : scalarBytes c ≠ []) : isScalarB c = true := by
  unfold scalarBytes at h
  split at h
  · assumption
  · exact absurd rfl h

theorem ofNat_nat {z : Int} (h0 : 0 ≤ z) (h1 : z < 256) : (UInt8.ofNat z.toNat).toNat = z.toNat := by
  have : (UInt8.ofNat z.toNat).toNat = z.toNat % 256 := by simp
  omega

theorem ofNat_toNat {m : Nat} (h : m < 256) : (UInt8.ofNat m).toNat = m := by
  have : (UInt8.ofNat m).toNat = m % 256 := by simp
  omega

theorem decode_pre {c : Int} {l : List UInt8} (h : isScalarB c = true) (hp : u8s (scalarBytes c) <+: l) : firstRune l = c := by
  rw [scalar_ref h] at hp
  have hs := h
  simp only [isScalarB, Bool.or_eq_true, Bool.and_eq_true, decide_eq_true_eq] at hs
  obtain ⟨n, rfl⟩ : ∃ n : Nat, c = n := ⟨c.toNat, by omega⟩
  obtain ⟨r, rfl⟩ := hp
  unfold firstRune
  have hv : Utf8.valid (n : Int) = true := by
    unfold Utf8.valid
    simp only [Bool.and_eq_true, Bool.or_eq_true, Bool.not_eq_true', decide_eq_true_eq, decide_eq_false_iff_not]
    omega
  refine congrArg (fun k : Nat => (k : Int)) ?_
  unfold refList
  by_cases h1 : n < 128
  · rw [if_pos (show (n : Int) < 128 by omega)]
    generalize hl : u8s [(n : Int)] ++ r = l
    have g0 : l[0]? = some (UInt8.ofNat (n : Int).toNat) := by rw [← hl]; rfl
    unfold Utf8.decode
    simp only [Nat.add_zero, ba_get g0, Int.toNat_natCast, ofNat_toNat (m := n) (by omega)]
    rw [if_pos h1]
  by_cases h2 : n < 2048
  · rw [if_neg (show ¬ (n : Int) < 128 by omega), if_pos (show (n : Int) < 2048 by omega)]
    generalize hl : u8s [192 + (n : Int) / 64, 128 + (n : Int) % 64] ++ r = l
    have g0 : l[0]? = some (UInt8.ofNat (192 + (n : Int) / 64).toNat) := by rw [← hl]; rfl
    have g1 : l[1]? = some (UInt8.ofNat (128 + (n : Int) % 64).toNat) := by rw [← hl]; rfl
    have hlen : 2 ≤ l.length := by rw [← hl]; simp [u8s]
    have e0 : (192 + (n : Int) / 64).toNat = 192 + n / 64 := by omega
    have e1 : (128 + (n : Int) % 64).toNat = 128 + n % 64 := by omega
    have t0 := ofNat_toNat (m := 192 + n / 64) (by omega)
    have t1 := ofNat_toNat (m := 128 + n % 64) (by omega)
    unfold Utf8.decode
    simp only [Nat.add_zero, Nat.zero_add, ba_get g0, ba_get g1, ba_size, t0, t1, e0, e1]
    rw [if_neg (by omega), if_pos (by simp; omega), if_pos (by omega)]
    show (192 + n / 64) % 32 * 64 + (128 + n % 64) % 64 = n
    omega
  by_cases h3 : n < 65536
  · rw [if_neg (show ¬ (n : Int) < 128 by omega), if_neg (show ¬ (n : Int) < 2048 by omega), if_pos (show (n : Int) < 65536 by omega)]
    generalize hl : u8s [224 + (n : Int) / 4096, 128 + (n : Int) / 64 % 64, 128 + (n : Int) % 64] ++ r = l
    have g0 : l[0]? = some (UInt8.ofNat (224 + (n : Int) / 4096).toNat) := by rw [← hl]; rfl
    have g1 : l[1]? = some (UInt8.ofNat (128 + (n : Int) / 64 % 64).toNat) := by rw [← hl]; rfl
    have g2 : l[2]? = some (UInt8.ofNat (128 + (n : Int) % 64).toNat) := by rw [← hl]; rfl
    have hlen : 3 ≤ l.length := by rw [← hl]; simp [u8s]
    have e0 : (224 + (n : Int) / 4096).toNat = 224 + n / 4096 := by omega
    have e1 : (128 + (n : Int) / 64 % 64).toNat = 128 + n / 64 % 64 := by omega
    have e2 : (128 + (n : Int) % 64).toNat = 128 + n % 64 := by omega
    have t0 := ofNat_toNat (m := 224 + n / 4096) (by omega)
    have t1 := ofNat_toNat (m := 128 + n / 64 % 64) (by omega)
    have t2 := ofNat_toNat (m := 128 + n % 64) (by omega)
    have hc : (224 + n / 4096) % 16 * 4096 + (128 + n / 64 % 64) % 64 * 64 + (128 + n % 64) % 64 = n := by omega
    unfold Utf8.decode
    simp only [Nat.add_zero, Nat.zero_add, ba_get g0, ba_get g1, ba_get g2, ba_size, t0, t1, t2, e0, e1, e2, hc]
    rw [if_neg (by omega), if_neg (by simp; omega), if_pos (by simp; omega), if_pos (by simp [hv]; omega)]
  · rw [if_neg (show ¬ (n : Int) < 128 by omega), if_neg (show ¬ (n : Int) < 2048 by omega), if_neg (show ¬ (n : Int) < 65536 by omega)]
    generalize hl : u8s [240 + (n : Int) / 262144, 128 + (n : Int) / 4096 % 64, 128 + (n : Int) / 64 % 64, 128 + (n : Int) % 64] ++ r = l
    have g0 : l[0]? = some (UInt8.ofNat (240 + (n : Int) / 262144).toNat) := by rw [← hl]; rfl
    have g1 : l[1]? = some (UInt8.ofNat (128 + (n : Int) / 4096 % 64).toNat) := by rw [← hl]; rfl
    have g2 : l[2]? = some (UInt8.ofNat (128 + (n : Int) / 64 % 64).toNat) := by rw [← hl]; rfl
    have g3 : l[3]? = some (UInt8.ofNat (128 + (n : Int) % 64).toNat) := by rw [← hl]; rfl
    have hlen : 4 ≤ l.length := by rw [← hl]; simp [u8s]
    have e0 : (240 + (n : Int) / 262144).toNat = 240 + n / 262144 := by omega
    have e1 : (128 + (n : Int) / 4096 % 64).toNat = 128 + n / 4096 % 64 := by omega
    have e2 : (128 + (n : Int) / 64 % 64).toNat = 128 + n / 64 % 64 := by omega
    have e3 : (128 + (n : Int) % 64).toNat = 128 + n % 64 := by omega
    have t0 := ofNat_toNat (m := 240 + n / 262144) (by omega)
    have t1 := ofNat_toNat (m := 128 + n / 4096 % 64) (by omega)
    have t2 := ofNat_toNat (m := 128 + n / 64 % 64) (by omega)
    have t3 := ofNat_toNat (m := 128 + n % 64) (by omega)
    have hc : (240 + n / 262144) % 8 * 262144 + (128 + n / 4096 % 64) % 64 * 4096 + (128 + n / 64 % 64) % 64 * 64 + (128 + n % 64) % 64 = n := by omega
    unfold Utf8.decode
    simp only [Nat.add_zero, Nat.zero_add, ba_get g0, ba_get g1, ba_get g2, ba_get g3, ba_size, t0, t1, t2, t3, e0, e1, e2, e3, hc]
    rw [if_neg (by omega), if_neg (by simp; omega), if_neg (by simp; omega), if_pos (by simp; omega), if_pos (by simp [hv]; omega)]

theorem ofL_of {c : Int} (h : isScalarB c = true) : ofL (scalarBytes c) = c := by
  have hs := h
  simp only [isScalarB, Bool.or_eq_true, Bool.and_eq_true, decide_eq_true_eq] at hs
  have hc : compTo (scalarBytes c) ((scalarBytes c).length - 1) = c := by
    rw [scalar_ref h]
    unfold refList
    repeat' split
    · simp [compTo, lead]
    · simp [compTo, lead]; omega
    · simp [compTo, lead]; omega
    · simp [compTo, lead]; omega
  unfold ofL
  rw [hc, if_pos rfl]

def bytesI (l : List UInt8) : List Int := l.map fun b => (b.toNat : Int)

theorem bytesI_bytes (l : List UInt8) : ∀ z ∈ bytesI l, 0 ≤ z ∧ z < 256 := by
  intro z hz
  obtain ⟨b, _, rfl⟩ := List.mem_map.1 hz
  exact byte_cast b

theorem u8s_bytesI (l : List UInt8) : u8s (bytesI l) = l := by
  unfold u8s bytesI
  rw [List.map_map]
  conv => rhs; rw [← List.map_id l]
  refine List.map_congr_left fun b _ => ?_
  simp

theorem bytesI_u8s {u : List Int} (h : ∀ z ∈ u, 0 ≤ z ∧ z < 256) : bytesI (u8s u) = u := by
  unfold u8s bytesI
  rw [List.map_map]
  conv => rhs; rw [← List.map_id u]
  refine List.map_congr_left fun z hz => ?_
  have := h z hz
  simp only [Function.comp, id, ofNat_nat this.1 this.2]
  omega

theorem scalarBytes_bytes (c : Int) : ∀ z ∈ scalarBytes c, 0 ≤ z ∧ z < 256 := by
  intro z hz
  unfold scalarBytes at hz
  split at hz
  · exact utf8_bytes c z hz
  · cases hz

theorem scalarBytes_len (c : Int) : (scalarBytes c).length ≤ 4 := by
  unfold scalarBytes
  split
  · have := (encode_len c).2
    simpa [utf8] using this
  · simp

/-- The document's number at a place. -/
def cOf (utf : Bool) (u : List Int) : Int := if utf then ofL u else if u.length = 1 then u.getD 0 0 else -1

def spanHit (s : List UInt8) (utf : Bool) (lo hi : Int) (a x : Nat) : Bool :=
  decide (cOf utf (bytesI ((s.take x).drop a)) ≥ lo) && decide (cOf utf (bytesI ((s.take x).drop a)) ≤ hi) && decide (cOf utf (bytesI ((s.take x).drop a)) ≥ 0)

theorem span_law {s : List UInt8} {utf : Bool} {lo hi : Int} {a x : Nat} : spanEnd s utf lo hi a = some x ↔ (a < x ∧ x ≤ s.length ∧ x ≤ a + 4 ∧ spanHit s utf lo hi a x = true) := by
  unfold spanHit
  cases utf with
  | false =>
    simp only [spanEnd, cOf, Bool.false_eq_true, if_false, Bool.and_eq_true, decide_eq_true_eq]
    constructor
    · intro h
      cases hb : s[a]? with
      | none => rw [hb] at h; cases h
      | some b =>
        rw [hb] at h
        obtain ⟨hlt, hbe⟩ := List.getElem?_eq_some_iff.1 hb
        simp only at h
        split at h
        · rename_i hc
          simp only [Option.some.injEq] at h
          subst h
          have hsl : (s.take (a + 1)).drop a = [b] := by
            rw [List.take_add_one, hb, List.drop_append_of_le_length (by rw [List.length_take]; omega), List.drop_of_length_le (by rw [List.length_take]; omega)]
            rfl
          rw [hsl]
          have := byte_cast b
          refine ⟨by omega, by omega, by omega, ?_⟩
          simp [bytesI]
          omega
        · cases h
    · rintro ⟨h1, h2, h3, h4⟩
      split at h4
      · rename_i hl
        have hx : x = a + 1 := by
          simp [bytesI] at hl
          omega
        subst hx
        obtain ⟨b, hb⟩ : ∃ b, s[a]? = some b := ⟨_, List.getElem?_eq_getElem (by omega)⟩
        have hsl : (s.take (a + 1)).drop a = [b] := by
          rw [List.take_add_one, hb, List.drop_append_of_le_length (by rw [List.length_take]; omega), List.drop_of_length_le (by rw [List.length_take]; omega)]
          rfl
        rw [hsl] at h4
        simp [bytesI] at h4
        rw [hb]
        simp only
        rw [if_pos (by omega)]
      · omega
  | true =>
    simp only [spanEnd, cOf, if_true, Bool.and_eq_true, decide_eq_true_eq]
    have htx : ∀ c : Int, textOf true [c] = if scalarBytes c = [] then none else some (u8s (scalarBytes c)) := by
      intro c
      simp only [textOf, senseBytes, if_true]
      split
      · rfl
      · simp
    constructor
    · intro h
      split at h
      · rename_i ha
        generalize firstRune (s.drop a) = r at h
        rw [htx] at h
        split at h
        · cases h
        · rename_i hne
          simp only [endIf] at h
          split at h
          · rename_i hc
            obtain ⟨c1, c2, c3⟩ := hc
            simp only [Option.some.injEq] at h
            subst h
            have hpre := preB_iff.1 c3
            have hsc := scalar_pos hne
            have hle := hpre.length_le
            rw [List.length_drop] at hle
            have hl4 := scalarBytes_len r
            have hul : (u8s (scalarBytes r)).length = (scalarBytes r).length := by simp [u8s]
            have hl1 : (scalarBytes r).length ≠ 0 := fun h => hne (List.eq_nil_of_length_eq_zero h)
            have hsl : (s.take (a + (u8s (scalarBytes r)).length)).drop a = u8s (scalarBytes r) := by
              rw [List.drop_take, Nat.add_sub_cancel_left]
              exact (List.prefix_iff_eq_take.1 hpre).symm
            rw [hsl, bytesI_u8s (scalarBytes_bytes r), ofL_of hsc]
            have h0 : 0 ≤ r := by
              simp only [isScalarB, Bool.or_eq_true, Bool.and_eq_true, decide_eq_true_eq] at hsc
              omega
            exact ⟨by omega, by omega, by omega, ⟨c1, c2⟩, h0⟩
          · cases h
      · cases h
    · rintro ⟨h1, h2, h3, ⟨h4, h5⟩, h6⟩
      obtain ⟨w, hw⟩ : ∃ w, (s.take x).drop a = w := ⟨_, rfl⟩
      rw [hw] at h4 h5 h6
      have hwl : w.length = x - a := by rw [← hw, List.length_drop, List.length_take]; omega
      have hof : scalarBytes (ofL (bytesI w)) = bytesI w := by
        have h6' := h6
        unfold ofL at h6' ⊢
        split
        · assumption
        · rename_i hno
          rw [if_neg hno] at h6'
          omega
      obtain ⟨c, hc⟩ : ∃ c, ofL (bytesI w) = c := ⟨_, rfl⟩
      rw [hc] at h4 h5 h6 hof
      have hne : scalarBytes c ≠ [] := by
        rw [hof]
        intro h
        have := congrArg List.length h
        simp [bytesI] at this
        rw [this] at hwl
        simp at hwl
        omega
      have hu : u8s (scalarBytes c) = w := by rw [hof, u8s_bytesI]
      have hpre : w <+: s.drop a := by
        rw [← hw, List.drop_take]
        exact List.take_prefix _ _
      have hfr : firstRune (s.drop a) = c := decode_pre (scalar_pos hne) (by rw [hu]; exact hpre)
      rw [if_pos (by omega), hfr, htx, if_neg hne, hu]
      simp only [endIf]
      rw [if_pos ⟨h4, h5, preB_iff.2 hpre⟩]
      congr 1
      omega

end Go.Proofs.YtdpielghjaehbaaGreat.Ev
