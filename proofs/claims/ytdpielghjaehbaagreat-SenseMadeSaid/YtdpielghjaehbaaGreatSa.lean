/- sense: letters. -/
import Derived.Test.YtdpielghjaehbaaGreatEvSEnv
import Derived.Test.YtdpielghjaehbaaGreatEvX
set_option linter.unusedSectionVars false
set_option linter.unusedSimpArgs false
set_option linter.unusedVariables false
namespace Go.Proofs.YtdpielghjaehbaaGreat.Ev

variable {mem : Nat → Nat → Option Value} {B0 : Nat}

/-- No function is known ahead. -/
def none1 : CallF := fun _ _ _ _ _ => none
theorem none1_ok {P : Program} {E : Env} {B0 : Nat} : CallOk P E B0 none1 := fun f args B d n v d' n' al ρ w h => by cases h

def smallI (b : Int) : Int := if 65 ≤ b ∧ b ≤ 90 then b + 32 else b

theorem small_ok (b : Int) (hb0 : 0 ≤ b) (hb : b < 256) : PureA Tryz.prog (senv mem) B0 82 [.c (.int .u8 b)] (.c (.int .u8 (smallI b))) := by
  intro d n
  refine callsA_code senv_ok none1_ok Tryz.func82 rfl (by decide) rfl rfl (by simp) fun hl ha Q hQ => ?_
  by_cases h1 : b ≥ 65
  · by_cases h2 : b ≤ 90
    · simp -implicitDefEqProofs only [stp,code_seq,evWanted,evOp,val,absV,evBin,evConv,evBuiltin,cmpInt,vals,partsOf,isAggD,cellsOf,isAggV,Nat.reduceEqDiff,Nat.reduceLT,Nat.reduceBEq,Nat.reduceBNe,reduceCtorEq,if_true,if_false,reduceIte,forall_const,IntKind.bits,IntKind.signed,eq_self_iff_true,finalOf,resultOf,cellsGood,AC.isCell,senv_mem,lift, Tryz.f82, h1, h2]
      refine hQ _ _ _ _ (.c (.int .u8 (smallI b))) (.inr rfl) ?_ ⟨rfl, rfl, rfl⟩
      simp -implicitDefEqProofs only [stp,code_seq,evWanted,evOp,val,absV,evBin,evConv,evBuiltin,cmpInt,vals,partsOf,isAggD,cellsOf,isAggV,Nat.reduceEqDiff,Nat.reduceLT,Nat.reduceBEq,Nat.reduceBNe,reduceCtorEq,if_true,if_false,reduceIte,forall_const,IntKind.bits,IntKind.signed,eq_self_iff_true,finalOf,resultOf,cellsGood,AC.isCell,senv_mem,lift, Tryz.f82]
      rw [smallI, if_pos ⟨h1, h2⟩, IntKind.wrap_u8, IntKind.wrap_u8]
      congr 3
      omega
    · simp -implicitDefEqProofs only [stp,code_seq,evWanted,evOp,val,absV,evBin,evConv,evBuiltin,cmpInt,vals,partsOf,isAggD,cellsOf,isAggV,Nat.reduceEqDiff,Nat.reduceLT,Nat.reduceBEq,Nat.reduceBNe,reduceCtorEq,if_true,if_false,reduceIte,forall_const,IntKind.bits,IntKind.signed,eq_self_iff_true,finalOf,resultOf,cellsGood,AC.isCell,senv_mem,lift, Tryz.f82, h1, h2]
      refine hQ _ _ _ _ (.c (.int .u8 (smallI b))) (.inr rfl) ?_ ⟨rfl, rfl, rfl⟩
      simp -implicitDefEqProofs only [stp,code_seq,evWanted,evOp,val,absV,evBin,evConv,evBuiltin,cmpInt,vals,partsOf,isAggD,cellsOf,isAggV,Nat.reduceEqDiff,Nat.reduceLT,Nat.reduceBEq,Nat.reduceBNe,reduceCtorEq,if_true,if_false,reduceIte,forall_const,IntKind.bits,IntKind.signed,eq_self_iff_true,finalOf,resultOf,cellsGood,AC.isCell,senv_mem,lift, Tryz.f82]
      rw [smallI, if_neg (fun x => h2 x.2)]
  · simp -implicitDefEqProofs only [stp,code_seq,evWanted,evOp,val,absV,evBin,evConv,evBuiltin,cmpInt,vals,partsOf,isAggD,cellsOf,isAggV,Nat.reduceEqDiff,Nat.reduceLT,Nat.reduceBEq,Nat.reduceBNe,reduceCtorEq,if_true,if_false,reduceIte,forall_const,IntKind.bits,IntKind.signed,eq_self_iff_true,finalOf,resultOf,cellsGood,AC.isCell,senv_mem,lift, Tryz.f82, h1]
    refine hQ _ _ _ _ (.c (.int .u8 (smallI b))) (.inr rfl) ?_ ⟨rfl, rfl, rfl⟩
    simp -implicitDefEqProofs only [stp,code_seq,evWanted,evOp,val,absV,evBin,evConv,evBuiltin,cmpInt,vals,partsOf,isAggD,cellsOf,isAggV,Nat.reduceEqDiff,Nat.reduceLT,Nat.reduceBEq,Nat.reduceBNe,reduceCtorEq,if_true,if_false,reduceIte,forall_const,IntKind.bits,IntKind.signed,eq_self_iff_true,finalOf,resultOf,cellsGood,AC.isCell,senv_mem,lift, Tryz.f82]
    rw [smallI, if_neg (fun x => h1 x.1)]

/-- The function small, known ahead. -/
def call1 : CallF := fun f args _ d n => match args with
  | [.c (.int .u8 b)] => if f = 82 ∧ 0 ≤ b ∧ b < 256 then some (.c (.int .u8 (smallI b)), d, n) else none
  | _ => none

theorem call1_ok : CallOk Tryz.prog (senv mem) B0 call1 := pure_ok fun f args B d n v d' n' h => by
  unfold call1 at h
  split at h
  · split at h <;> cases h
    rename_i hc
    obtain ⟨rfl, h0, h1⟩ := hc
    exact ⟨rfl, rfl, small_ok _ h0 h1⟩
  · cases h

def alikeB : List UInt8 → List UInt8 → Bool
  | [], [] => true
  | a :: x, b :: y => smallI a.toNat == smallI b.toNat && alikeB x y
  | _, _ => false

theorem alike_cons {a b : UInt8} {x y : List UInt8} : alikeB (a :: x) (b :: y) = (smallI a.toNat == smallI b.toNat && alikeB x y) := rfl

theorem alike_len : ∀ {x y : List UInt8}, x.length ≠ y.length → alikeB x y = false
  | [], [], h => absurd rfl h
  | [], _ :: _, _ => rfl
  | _ :: _, [], _ => rfl
  | a :: x, b :: y, h => by rw [alike_cons, alike_len (fun e => h (by simp [e])), Bool.and_false]

theorem alike_drop {x y : List UInt8} (h : x.length = y.length) (i : Nat) (hi : i < x.length) : alikeB (x.drop i) (y.drop i) = (smallI (x[i].toNat : Int) == smallI ((y[i]'(by omega)).toNat : Int) && alikeB (x.drop (i + 1)) (y.drop (i + 1))) := by
  rw [List.drop_eq_getElem_cons hi, List.drop_eq_getElem_cons (show i < y.length by omega), alike_cons]

theorem byte_cast (b : UInt8) : (0 : Int) ≤ (b.toNat : Int) ∧ (b.toNat : Int) < 256 := ⟨by omega, by have := b.toNat_lt; omega⟩

theorem alike_ok (x y : List UInt8) (hx : x.length < 4611686018427387904) : PureA Tryz.prog (senv mem) B0 59 [.c (.str x), .c (.str y)] (.c (.bool (alikeB x y))) := by
  intro d n
  refine callsA_code senv_ok call1_ok Tryz.func59 rfl (by decide) rfl rfl (by simp) fun hl ha Q hQ => ?_
  by_cases h1 : (x.length : Int) = y.length
  · have hlen : x.length = y.length := by omega
    simp -implicitDefEqProofs only [stp,code_seq,evWanted,evOp,val,absV,evBin,evConv,evBuiltin,cmpInt,vals,partsOf,isAggD,cellsOf,isAggV,Nat.reduceEqDiff,Nat.reduceLT,Nat.reduceBEq,Nat.reduceBNe,reduceCtorEq,if_true,if_false,reduceIte,forall_const,IntKind.bits,IntKind.signed,eq_self_iff_true,finalOf,resultOf,cellsGood,AC.isCell,senv_mem,lift, Tryz.f59, ty3,ty4,ty5,ty9,ty21,ty22,ty33,ty34,ty23,ty36,ty40,ty73,ty71,ty75,ty80,ty77,ty90, h1, bne_self_eq_false]
    refine code_loop senv_ok call1_ok (fun k s d' n' => d' = d ∧ n' = n ∧ s.nt = 26 ∧ ∃ i : Nat, i + k = x.length ∧ s.get 0 = .c (.str x) ∧ s.get 1 = .c (.str y) ∧ s.get 12 = .c (.int .i64 x.length) ∧ s.get 13 = .c (.int .i64 i) ∧ alikeB x y = alikeB (x.drop i) (y.drop i)) x.length ?_ ?_
    · refine ⟨rfl, rfl, rfl, 0, by omega, ?_⟩
      simp -implicitDefEqProofs only [stp,code_seq,evWanted,evOp,val,absV,evBin,evConv,evBuiltin,cmpInt,vals,partsOf,isAggD,cellsOf,isAggV,Nat.reduceEqDiff,Nat.reduceLT,Nat.reduceBEq,Nat.reduceBNe,reduceCtorEq,if_true,if_false,reduceIte,forall_const,IntKind.bits,IntKind.signed,eq_self_iff_true,finalOf,resultOf,cellsGood,AC.isCell,senv_mem,lift, h1]
      exact ⟨rfl, rfl⟩
    · rintro k s _ _ ⟨rfl, rfl, hnt, i, hik, g0, g1, g12, g13, hal⟩ hl hs Q' hQ1 hQ2
      by_cases hi : (i : Int) < x.length
      · have hi' : i < x.length := by omega
        have hi2 : i < y.length := by omega
        have hx1 : x[i]? = some x[i] := List.getElem?_eq_getElem hi'
        have hy1 : y[i]? = some y[i] := List.getElem?_eq_getElem hi2
        have hi0 : (0 : Int) ≤ i := by omega
        have k1 := byte_cast x[i]
        have k2 := byte_cast y[i]
        have hd := alike_drop hlen i hi'
        simp -implicitDefEqProofs only [stp,code_seq,evWanted,evOp,val,absV,evBin,evConv,evBuiltin,cmpInt,vals,partsOf,isAggD,cellsOf,isAggV,Nat.reduceEqDiff,Nat.reduceLT,Nat.reduceBEq,Nat.reduceBNe,reduceCtorEq,if_true,if_false,reduceIte,forall_const,IntKind.bits,IntKind.signed,eq_self_iff_true,finalOf,resultOf,cellsGood,AC.isCell,senv_mem,lift, Tryz.f59, ty3,ty4,ty5,ty9,ty21,ty22,ty33,ty34,ty23,ty36,ty40,ty73,ty71,ty75,ty80,ty77,ty90, hnt, g0, g1, g12, g13, hi]
        apply code_drawn senv_ok call1_ok (by decide) _ (by rfl)
        · simp +decide -implicitDefEqProofs only [stp,code_seq,evWanted,evOp,val,absV,evBin,evConv,evBuiltin,cmpInt,vals,partsOf,isAggD,cellsOf,isAggV,Nat.reduceEqDiff,Nat.reduceLT,Nat.reduceBEq,Nat.reduceBNe,reduceCtorEq,if_true,if_false,reduceIte,forall_const,IntKind.bits,IntKind.signed,eq_self_iff_true,finalOf,resultOf,cellsGood,AC.isCell,senv_mem,lift, flat,d_nil,d_cons,d_true,d_false,d_some,d_some1,slotsAt_get,slotsAt_nt,get_mk_cons,get_mk,wrs_nil,wrs_cons,wrs_none,get_heapAt,get_seen_nil,get_seen_cons,get_seen_one,List.cons_append,List.nil_append,Nat.reduceSub,Nat.reduceAdd,Nat.add_one_sub_one,bitOf, ty3,ty4,ty5,ty9,ty21,ty22,ty33,ty34,ty23,ty36,ty40,ty73,ty71,ty75,ty80,ty77,ty90, hnt, g0, g1, hi, hi0, Int.toNat_natCast, hx1, hy1, call1, k1, k2]
          rfl
        · rfl
        · by_cases he : smallI (x[i].toNat : Int) = smallI (y[i].toNat : Int)
          · have hne : (smallI (x[i].toNat : Int) != smallI (y[i].toNat : Int)) = false := by simpa [bne] using he
            simp +decide -implicitDefEqProofs only [stp,code_seq,evWanted,evOp,val,absV,evBin,evConv,evBuiltin,cmpInt,vals,partsOf,isAggD,cellsOf,isAggV,Nat.reduceEqDiff,Nat.reduceLT,Nat.reduceBEq,Nat.reduceBNe,reduceCtorEq,if_true,if_false,reduceIte,forall_const,IntKind.bits,IntKind.signed,eq_self_iff_true,finalOf,resultOf,cellsGood,AC.isCell,senv_mem,lift, flat,d_nil,d_cons,d_true,d_false,d_some,d_some1,slotsAt_get,slotsAt_nt,get_mk_cons,get_mk,wrs_nil,wrs_cons,wrs_none,get_heapAt,get_seen_nil,get_seen_cons,get_seen_one,List.cons_append,List.nil_append,Nat.reduceSub,Nat.reduceAdd,Nat.add_one_sub_one,bitOf, Tryz.f59, ty3,ty4,ty5,ty9,ty21,ty22,ty33,ty34,ty23,ty36,ty40,ty73,ty71,ty75,ty80,ty77,ty90, hnt, g0, g1, g12, g13, hne]
            refine hQ1 (k - 1) _ _ _ (by omega) ⟨rfl, rfl, ?_⟩
            simp +decide -implicitDefEqProofs only [stp,code_seq,evWanted,evOp,val,absV,evBin,evConv,evBuiltin,cmpInt,vals,partsOf,isAggD,cellsOf,isAggV,Nat.reduceEqDiff,Nat.reduceLT,Nat.reduceBEq,Nat.reduceBNe,reduceCtorEq,if_true,if_false,reduceIte,forall_const,IntKind.bits,IntKind.signed,eq_self_iff_true,finalOf,resultOf,cellsGood,AC.isCell,senv_mem,lift, flat,d_nil,d_cons,d_true,d_false,d_some,d_some1,slotsAt_get,slotsAt_nt,get_mk_cons,get_mk,wrs_nil,wrs_cons,wrs_none,get_heapAt,get_seen_nil,get_seen_cons,get_seen_one,List.cons_append,List.nil_append,Nat.reduceSub,Nat.reduceAdd,Nat.add_one_sub_one,bitOf, hnt, g0, g1, g12, g13]
            refine ⟨i + 1, by omega, ?_, ?_⟩
            · rw [wrap_succ (by omega)]
            · rw [hal, hd, he]; simp
          · have hne : (smallI (x[i].toNat : Int) != smallI (y[i].toNat : Int)) = true := by simpa [bne] using he
            simp +decide -implicitDefEqProofs only [stp,code_seq,evWanted,evOp,val,absV,evBin,evConv,evBuiltin,cmpInt,vals,partsOf,isAggD,cellsOf,isAggV,Nat.reduceEqDiff,Nat.reduceLT,Nat.reduceBEq,Nat.reduceBNe,reduceCtorEq,if_true,if_false,reduceIte,forall_const,IntKind.bits,IntKind.signed,eq_self_iff_true,finalOf,resultOf,cellsGood,AC.isCell,senv_mem,lift, flat,d_nil,d_cons,d_true,d_false,d_some,d_some1,slotsAt_get,slotsAt_nt,get_mk_cons,get_mk,wrs_nil,wrs_cons,wrs_none,get_heapAt,get_seen_nil,get_seen_cons,get_seen_one,List.cons_append,List.nil_append,Nat.reduceSub,Nat.reduceAdd,Nat.add_one_sub_one,bitOf, Tryz.f59, ty3,ty4,ty5,ty9,ty21,ty22,ty33,ty34,ty23,ty36,ty40,ty73,ty71,ty75,ty80,ty77,ty90, hnt, g0, g1, g12, g13, hne]
            refine hQ2 _ _ _ _ (by simp) ?_
            simp -implicitDefEqProofs only [stp,code_seq,evWanted,evOp,val,absV,evBin,evConv,evBuiltin,cmpInt,vals,partsOf,isAggD,cellsOf,isAggV,Nat.reduceEqDiff,Nat.reduceLT,Nat.reduceBEq,Nat.reduceBNe,reduceCtorEq,if_true,if_false,reduceIte,forall_const,IntKind.bits,IntKind.signed,eq_self_iff_true,finalOf,resultOf,cellsGood,AC.isCell,senv_mem,lift]
            refine hQ _ _ _ _ (.c (.bool (alikeB x y))) (.inr rfl) ?_ ⟨rfl, rfl, rfl⟩
            simp +decide -implicitDefEqProofs only [stp,code_seq,evWanted,evOp,val,absV,evBin,evConv,evBuiltin,cmpInt,vals,partsOf,isAggD,cellsOf,isAggV,Nat.reduceEqDiff,Nat.reduceLT,Nat.reduceBEq,Nat.reduceBNe,reduceCtorEq,if_true,if_false,reduceIte,forall_const,IntKind.bits,IntKind.signed,eq_self_iff_true,finalOf,resultOf,cellsGood,AC.isCell,senv_mem,lift, flat,d_nil,d_cons,d_true,d_false,d_some,d_some1,slotsAt_get,slotsAt_nt,get_mk_cons,get_mk,wrs_nil,wrs_cons,wrs_none,get_heapAt,get_seen_nil,get_seen_cons,get_seen_one,List.cons_append,List.nil_append,Nat.reduceSub,Nat.reduceAdd,Nat.add_one_sub_one,bitOf, Tryz.f59, hnt]
            rw [hal, hd, beq_false_of_ne he, Bool.false_and]
      · simp -implicitDefEqProofs only [stp,code_seq,evWanted,evOp,val,absV,evBin,evConv,evBuiltin,cmpInt,vals,partsOf,isAggD,cellsOf,isAggV,Nat.reduceEqDiff,Nat.reduceLT,Nat.reduceBEq,Nat.reduceBNe,reduceCtorEq,if_true,if_false,reduceIte,forall_const,IntKind.bits,IntKind.signed,eq_self_iff_true,finalOf,resultOf,cellsGood,AC.isCell,senv_mem,lift, Tryz.f59, ty3,ty4,ty5,ty9,ty21,ty22,ty33,ty34,ty23,ty36,ty40,ty73,ty71,ty75,ty80,ty77,ty90, hnt, g0, g1, g12, g13, hi]
        refine hQ2 _ _ _ _ (by simp) ?_
        simp -implicitDefEqProofs only [stp,code_seq,evWanted,evOp,val,absV,evBin,evConv,evBuiltin,cmpInt,vals,partsOf,isAggD,cellsOf,isAggV,Nat.reduceEqDiff,Nat.reduceLT,Nat.reduceBEq,Nat.reduceBNe,reduceCtorEq,if_true,if_false,reduceIte,forall_const,IntKind.bits,IntKind.signed,eq_self_iff_true,finalOf,resultOf,cellsGood,AC.isCell,senv_mem,lift]
        refine hQ _ _ _ _ (.c (.bool (alikeB x y))) (.inr rfl) ?_ ⟨rfl, rfl, rfl⟩
        simp -implicitDefEqProofs only [stp,code_seq,evWanted,evOp,val,absV,evBin,evConv,evBuiltin,cmpInt,vals,partsOf,isAggD,cellsOf,isAggV,Nat.reduceEqDiff,Nat.reduceLT,Nat.reduceBEq,Nat.reduceBNe,reduceCtorEq,if_true,if_false,reduceIte,forall_const,IntKind.bits,IntKind.signed,eq_self_iff_true,finalOf,resultOf,cellsGood,AC.isCell,senv_mem,lift, Tryz.f59, hnt]
        rw [hal, List.drop_eq_nil_of_le (by omega), List.drop_eq_nil_of_le (by omega)]
        rfl
  · have hne : ((x.length : Int) != y.length) = true := by simpa [bne_iff_ne] using h1
    simp -implicitDefEqProofs only [stp,code_seq,evWanted,evOp,val,absV,evBin,evConv,evBuiltin,cmpInt,vals,partsOf,isAggD,cellsOf,isAggV,Nat.reduceEqDiff,Nat.reduceLT,Nat.reduceBEq,Nat.reduceBNe,reduceCtorEq,if_true,if_false,reduceIte,forall_const,IntKind.bits,IntKind.signed,eq_self_iff_true,finalOf,resultOf,cellsGood,AC.isCell,senv_mem,lift, Tryz.f59, ty3,ty4,ty5,ty9,ty21,ty22,ty33,ty34,ty23,ty36,ty40,ty73,ty71,ty75,ty80,ty77,ty90, hne]
    refine hQ _ _ _ _ (.c (.bool (alikeB x y))) (.inr rfl) ?_ ⟨rfl, rfl, rfl⟩
    simp -implicitDefEqProofs only [stp,code_seq,evWanted,evOp,val,absV,evBin,evConv,evBuiltin,cmpInt,vals,partsOf,isAggD,cellsOf,isAggV,Nat.reduceEqDiff,Nat.reduceLT,Nat.reduceBEq,Nat.reduceBNe,reduceCtorEq,if_true,if_false,reduceIte,forall_const,IntKind.bits,IntKind.signed,eq_self_iff_true,finalOf,resultOf,cellsGood,AC.isCell,senv_mem,lift, Tryz.f59]
    rw [alike_len (by omega)]

end Go.Proofs.YtdpielghjaehbaaGreat.Ev

/- sense: numbers' bytes. -/
set_option linter.unusedSectionVars false
set_option linter.unusedSimpArgs false
set_option linter.unusedVariables false
namespace Go.Proofs.YtdpielghjaehbaaGreat.Ev

variable {mem : Nat → Nat → Option Value} {B0 : Nat}

def preB (x y : List UInt8) : Bool := decide (y.length ≤ x.length) && sameBytes (x.take y.length) y

theorem pre1_ok (x y : List UInt8) : PureA Tryz.prog (senv mem) B0 83 [.c (.str x), .c (.str y)] (.c (.bool (preB x y))) := by
  intro d n
  refine callsA_code senv_ok none1_ok Tryz.func83 rfl (by decide) rfl rfl (by simp) fun hl ha Q hQ => ?_
  by_cases h1 : (x.length : Int) ≥ y.length
  · have h0 : (0 : Int) ≤ y.length := by omega
    have h2 : (y.length : Int) ≤ x.length := h1
    simp -implicitDefEqProofs only [stp,code_seq,evWanted,evOp,val,absV,evBin,evConv,evBuiltin,cmpInt,vals,partsOf,isAggD,cellsOf,isAggV,Nat.reduceEqDiff,Nat.reduceLT,Nat.reduceBEq,Nat.reduceBNe,reduceCtorEq,if_true,if_false,reduceIte,forall_const,IntKind.bits,IntKind.signed,eq_self_iff_true,finalOf,resultOf,cellsGood,AC.isCell,senv_mem,lift, Tryz.f83, ty3,ty4,ty5,ty9,ty21,ty22,ty33,ty34,ty23,ty36,ty40,ty73,ty71,ty75,ty80,ty77,ty90, h1, h0, h2, Int.toNat_natCast]
    refine hQ _ _ _ _ (.c (.bool (preB x y))) (.inr rfl) ?_ ⟨rfl, rfl, rfl⟩
    simp -implicitDefEqProofs only [stp,code_seq,evWanted,evOp,val,absV,evBin,evConv,evBuiltin,cmpInt,vals,partsOf,isAggD,cellsOf,isAggV,Nat.reduceEqDiff,Nat.reduceLT,Nat.reduceBEq,Nat.reduceBNe,reduceCtorEq,if_true,if_false,reduceIte,forall_const,IntKind.bits,IntKind.signed,eq_self_iff_true,finalOf,resultOf,cellsGood,AC.isCell,senv_mem,lift, Tryz.f83]
    rw [preB, decide_eq_true (by omega), Bool.true_and]
  · simp -implicitDefEqProofs only [stp,code_seq,evWanted,evOp,val,absV,evBin,evConv,evBuiltin,cmpInt,vals,partsOf,isAggD,cellsOf,isAggV,Nat.reduceEqDiff,Nat.reduceLT,Nat.reduceBEq,Nat.reduceBNe,reduceCtorEq,if_true,if_false,reduceIte,forall_const,IntKind.bits,IntKind.signed,eq_self_iff_true,finalOf,resultOf,cellsGood,AC.isCell,senv_mem,lift, Tryz.f83, ty3,ty4,ty5,ty9,ty21,ty22,ty33,ty34,ty23,ty36,ty40,ty73,ty71,ty75,ty80,ty77,ty90, h1]
    refine hQ _ _ _ _ (.c (.bool (preB x y))) (.inr rfl) ?_ ⟨rfl, rfl, rfl⟩
    simp -implicitDefEqProofs only [stp,code_seq,evWanted,evOp,val,absV,evBin,evConv,evBuiltin,cmpInt,vals,partsOf,isAggD,cellsOf,isAggV,Nat.reduceEqDiff,Nat.reduceLT,Nat.reduceBEq,Nat.reduceBNe,reduceCtorEq,if_true,if_false,reduceIte,forall_const,IntKind.bits,IntKind.signed,eq_self_iff_true,finalOf,resultOf,cellsGood,AC.isCell,senv_mem,lift, Tryz.f83]
    rw [preB, decide_eq_false (by omega), Bool.false_and]

theorem pre_ok (x y : List UInt8) : PureA Tryz.prog (senv mem) B0 61 [.c (.str x), .c (.str y)] (.c (.bool (preB x y))) := by
  intro d n
  refine callsA_code senv_ok none1_ok Tryz.func61 rfl (by decide) rfl rfl (by simp) fun hl ha Q hQ => ?_
  simp -implicitDefEqProofs only [stp,code_seq,evWanted,evOp,val,absV,evBin,evConv,evBuiltin,cmpInt,vals,partsOf,isAggD,cellsOf,isAggV,Nat.reduceEqDiff,Nat.reduceLT,Nat.reduceBEq,Nat.reduceBNe,reduceCtorEq,if_true,if_false,reduceIte,forall_const,IntKind.bits,IntKind.signed,eq_self_iff_true,finalOf,resultOf,cellsGood,AC.isCell,senv_mem,lift, Tryz.f61, ty3,ty4,ty5,ty9,ty21,ty22,ty33,ty34,ty23,ty36,ty40,ty73,ty71,ty75,ty80,ty77,ty90, none1]
  refine call_mono (pre1_ok x y d n) fun v d' n' ⟨hv, hd, hn⟩ hl' hle hok => ?_
  subst hv; subst hd; subst hn
  simp -implicitDefEqProofs only [stp,code_seq,evWanted,evOp,val,absV,evBin,evConv,evBuiltin,cmpInt,vals,partsOf,isAggD,cellsOf,isAggV,Nat.reduceEqDiff,Nat.reduceLT,Nat.reduceBEq,Nat.reduceBNe,reduceCtorEq,if_true,if_false,reduceIte,forall_const,IntKind.bits,IntKind.signed,eq_self_iff_true,finalOf,resultOf,cellsGood,AC.isCell,senv_mem,lift, Tryz.f61]
  refine hQ _ _ _ _ (.c (.bool (preB x y))) (.inr rfl) ?_ ⟨rfl, rfl, rfl⟩
  simp -implicitDefEqProofs only [stp,code_seq,evWanted,evOp,val,absV,evBin,evConv,evBuiltin,cmpInt,vals,partsOf,isAggD,cellsOf,isAggV,Nat.reduceEqDiff,Nat.reduceLT,Nat.reduceBEq,Nat.reduceBNe,reduceCtorEq,if_true,if_false,reduceIte,forall_const,IntKind.bits,IntKind.signed,eq_self_iff_true,finalOf,resultOf,cellsGood,AC.isCell,senv_mem,lift, Tryz.f61]

def isScalarB (c : Int) : Bool := (decide (0 ≤ c) && decide (c < 55296)) || (decide (57343 < c) && decide (c ≤ 1114111))

theorem isScalar_ok (c : Int) : PureA Tryz.prog (senv mem) B0 67 [.c (.int .i64 c)] (.c (.bool (isScalarB c))) := by
  intro d n
  refine callsA_code senv_ok none1_ok Tryz.func67 rfl (by decide) rfl rfl (by simp) fun hl ha Q hQ => ?_
  by_cases h1 : c ≥ 0 <;> by_cases h2 : c < 55296 <;> by_cases h3 : c > 57343 <;> by_cases h4 : c ≤ 1114111 <;>
    simp -implicitDefEqProofs only [stp,code_seq,evWanted,evOp,val,absV,evBin,evConv,evBuiltin,cmpInt,vals,partsOf,isAggD,cellsOf,isAggV,Nat.reduceEqDiff,Nat.reduceLT,Nat.reduceBEq,Nat.reduceBNe,reduceCtorEq,if_true,if_false,reduceIte,forall_const,IntKind.bits,IntKind.signed,eq_self_iff_true,finalOf,resultOf,cellsGood,AC.isCell,senv_mem,lift, Tryz.f67, ty3,ty4,ty5,ty9,ty21,ty22,ty33,ty34,ty23,ty36,ty40,ty73,ty71,ty75,ty80,ty77,ty90, h1, h2, h3, h4] <;>
    refine hQ _ _ _ _ (.c (.bool (isScalarB c))) (.inr rfl) ?_ ⟨rfl, rfl, rfl⟩ <;>
    simp -implicitDefEqProofs only [stp,code_seq,evWanted,evOp,val,absV,evBin,evConv,evBuiltin,cmpInt,vals,partsOf,isAggD,cellsOf,isAggV,Nat.reduceEqDiff,Nat.reduceLT,Nat.reduceBEq,Nat.reduceBNe,reduceCtorEq,if_true,if_false,reduceIte,forall_const,IntKind.bits,IntKind.signed,eq_self_iff_true,finalOf,resultOf,cellsGood,AC.isCell,senv_mem,lift, Tryz.f67] <;>
    simp [isScalarB] <;> omega

end Go.Proofs.YtdpielghjaehbaaGreat.Ev
