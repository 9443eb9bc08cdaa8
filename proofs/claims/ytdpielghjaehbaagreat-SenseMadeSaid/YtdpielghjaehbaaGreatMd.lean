/- regletlaw04.Made: rules by numbers. -/
import Derived.Test.YtdpielghjaehbaaGreatMc
set_option linter.unusedSectionVars false
set_option linter.unusedSimpArgs false
set_option linter.unusedVariables false
namespace Go.Proofs.YtdpielghjaehbaaGreat.Ev
open Go.RowKit

variable {mem : Nat → Nat → Option Value} {B0 : Nat}

/-- A rule as it is made: its name, whether there is more, what it derives. -/
structure Ln where
  nm : List UInt8
  more : Bool
  ex : Ex

def isLines (H : List Seg) : List Ln → List AC → Prop
  | [], _ => True
  | r :: rs, cs => (∃ ecs, cs.take 8 = .str r.nm :: .bool r.more :: ecs ∧ isEx H r.ex ecs = true) ∧ isLines H rs (cs.drop 8)

theorem isLines_keep {H H' : List Seg} (h : ∀ i o, get H i = some o → get H' i = some o) : ∀ (l : List Ln) (cs : List AC), isLines H l cs → isLines H' l cs
  | [], _, _ => trivial
  | r :: rs, cs, ⟨⟨ecs, h1, h2⟩, h3⟩ => ⟨⟨ecs, h1, isEx_keep h h2⟩, isLines_keep h rs _ h3⟩

theorem isLines_snoc {H : List Seg} {r : Ln} {ecs : List AC} (h6 : ecs.length = 6) (hx : isEx H r.ex ecs = true) : ∀ (l : List Ln) (cs : List AC), cs.length = l.length * 8 → isLines H l cs → isLines H (l ++ [r]) (cs ++ (.str r.nm :: .bool r.more :: ecs))
  | [], cs, hl, _ => by
    have hk : cs = [] := List.eq_nil_of_length_eq_zero (by simpa using hl)
    subst hk
    exact ⟨⟨ecs, by rw [List.nil_append, List.take_of_length_le (by simp; omega)], hx⟩, trivial⟩
  | q :: l, cs, hl, ⟨⟨e2, h1, h2⟩, h3⟩ => by
    have hl' : cs.length = l.length * 8 + 8 := by simp only [List.length_cons] at hl; omega
    refine ⟨⟨e2, by rw [List.take_append_of_le_length (by omega)]; exact h1, h2⟩, ?_⟩
    rw [List.drop_append_of_le_length (by omega)]
    exact isLines_snoc h6 hx l _ (by rw [List.length_drop]; omega) h3

def LnOk (r : Ln) : Prop := wfEx NMs r.ex = true ∧ r.nm ∈ NMs ∧ r.nm ≠ [45]

def LinesT (n : Nat) (d : Seg) (K : AC) (ls : List Ln) : Prop := (ls = [] ∧ K = .sl0) ∨ ∃ jl lcs, n + 1 ≤ jl ∧ K = .sl jl ls.length ∧ ls ≠ [] ∧ get [d] jl = some (.cells 38 lcs) ∧ lcs.length = ls.length * 8 ∧ lcs.all AC.isCell = true ∧ isLines [(jl, none) :: newOnly (n + 1) d] ls lcs

set_option maxRecDepth 20000 in
set_option maxHeartbeats 8000000 in
theorem made_ok {x : AC} {l : List UInt8} (hx : BytesIn mem x l) (d : Seg) (n : Nat) :
    CallsA Tryz.prog (lenv mem) B0 11 [.c x] d n fun v d' n' => ∃ K ls, v = .c K ∧ LinesT n d' K ls ∧ (∀ r ∈ ls, LnOk r) ∧ ls.length ≤ 5 ∧ Adds n d d' := by
  refine callsA_code lenv_ok none1_ok Tryz.func11 rfl (by decide) rfl rfl (by simp) fun hl ha Q hQ => ?_
  simp +decide -implicitDefEqProofs only [stp,code_seq,evWanted,evOp,val,absV,evBin,evConv,evBuiltin,cmpInt,vals,partsOf,isAggD,cellsOf,isAggV,Nat.reduceEqDiff,Nat.reduceLT,Nat.reduceBEq,Nat.reduceBNe,reduceCtorEq,if_true,if_false,reduceIte,forall_const,IntKind.bits,IntKind.signed,eq_self_iff_true,finalOf,resultOf,cellsGood,AC.isCell,senv_mem,lift, bld,spliceAll,allFields,places,splice,Nat.reduceAdd,Nat.reduceSub,Nat.reduceMul,Nat.reduceMod,Nat.reduceLeDiff,List.range,List.range.loop,pfind, Tryz.f11, ltyA, lenv_mem, none1, -code_seq]
  rw [code_seq]
  simp +decide -implicitDefEqProofs only [stp,code_seq,evWanted,evOp,val,absV,evBin,evConv,evBuiltin,cmpInt,vals,partsOf,isAggD,cellsOf,isAggV,Nat.reduceEqDiff,Nat.reduceLT,Nat.reduceBEq,Nat.reduceBNe,reduceCtorEq,if_true,if_false,reduceIte,forall_const,IntKind.bits,IntKind.signed,eq_self_iff_true,finalOf,resultOf,cellsGood,AC.isCell,senv_mem,lift, bld,spliceAll,allFields,places,splice,Nat.reduceAdd,Nat.reduceSub,Nat.reduceMul,Nat.reduceMod,Nat.reduceLeDiff,List.range,List.range.loop,pfind, ltyA, lenv_mem, none1, -code_seq]
  rw [code_seq]
  refine code_cutR (fun sl d' n' => sl.nt = 34 ∧ d' = (n, some (.cells 54 [x, .int .i64 ((0 : Nat) : Int)])) :: d ∧ n' = n + 1 ∧ sl.get 3 = .c (.ptr n 0)) ?_ ?_
  · intro Q' hQ'
    rcases hx with ⟨rfl, _⟩ | ⟨a, cap, rfl, _⟩
    · simp +decide -implicitDefEqProofs only [stp,code_seq,evWanted,evOp,val,absV,evBin,evConv,evBuiltin,cmpInt,vals,partsOf,isAggD,cellsOf,isAggV,Nat.reduceEqDiff,Nat.reduceLT,Nat.reduceBEq,Nat.reduceBNe,reduceCtorEq,if_true,if_false,reduceIte,forall_const,IntKind.bits,IntKind.signed,eq_self_iff_true,finalOf,resultOf,cellsGood,AC.isCell,senv_mem,lift, bld,spliceAll,allFields,places,splice,Nat.reduceAdd,Nat.reduceSub,Nat.reduceMul,Nat.reduceMod,Nat.reduceLeDiff,List.range,List.range.loop,pfind, ltyA, lenv_mem, none1]
      refine hQ' _ _ _ ⟨by first | rfl | simp only [nt_put], rfl, rfl, ?_⟩
      simp +decide -implicitDefEqProofs only [stp,code_seq,evWanted,evOp,val,absV,evBin,evConv,evBuiltin,cmpInt,vals,partsOf,isAggD,cellsOf,isAggV,Nat.reduceEqDiff,Nat.reduceLT,Nat.reduceBEq,Nat.reduceBNe,reduceCtorEq,if_true,if_false,reduceIte,forall_const,IntKind.bits,IntKind.signed,eq_self_iff_true,finalOf,resultOf,cellsGood,AC.isCell,senv_mem,lift]
    · have hoc : (Value.slice (some a) l.length cap).oneCell' = true := rfl
      simp +decide -implicitDefEqProofs only [stp,code_seq,evWanted,evOp,val,absV,evBin,evConv,evBuiltin,cmpInt,vals,partsOf,isAggD,cellsOf,isAggV,Nat.reduceEqDiff,Nat.reduceLT,Nat.reduceBEq,Nat.reduceBNe,reduceCtorEq,if_true,if_false,reduceIte,forall_const,IntKind.bits,IntKind.signed,eq_self_iff_true,finalOf,resultOf,cellsGood,AC.isCell,senv_mem,lift, bld,spliceAll,allFields,places,splice,Nat.reduceAdd,Nat.reduceSub,Nat.reduceMul,Nat.reduceMod,Nat.reduceLeDiff,List.range,List.range.loop,pfind, ltyA, lenv_mem, none1, hoc]
      refine hQ' _ _ _ ⟨by first | rfl | simp only [nt_put], rfl, rfl, ?_⟩
      simp +decide -implicitDefEqProofs only [stp,code_seq,evWanted,evOp,val,absV,evBin,evConv,evBuiltin,cmpInt,vals,partsOf,isAggD,cellsOf,isAggV,Nat.reduceEqDiff,Nat.reduceLT,Nat.reduceBEq,Nat.reduceBNe,reduceCtorEq,if_true,if_false,reduceIte,forall_const,IntKind.bits,IntKind.signed,eq_self_iff_true,finalOf,resultOf,cellsGood,AC.isCell,senv_mem,lift]
  rintro S _ _ ⟨hnt, rfl, rfl, g3⟩
  simp +decide -implicitDefEqProofs only [stp,code_seq,evWanted,evOp,val,absV,evBin,evConv,evBuiltin,cmpInt,vals,partsOf,isAggD,cellsOf,isAggV,Nat.reduceEqDiff,Nat.reduceLT,Nat.reduceBEq,Nat.reduceBNe,reduceCtorEq,if_true,if_false,reduceIte,forall_const,IntKind.bits,IntKind.signed,eq_self_iff_true,finalOf,resultOf,cellsGood,AC.isCell,senv_mem,lift, bld,spliceAll,allFields,places,splice,Nat.reduceAdd,Nat.reduceSub,Nat.reduceMul,Nat.reduceMod,Nat.reduceLeDiff,List.range,List.range.loop,pfind, ltyA, lenv_mem, none1, hnt, g3]
  refine call_mono (pick_ok hx (At := 0) (show PK (_ :: d) n x 0 by rw [PK, get_cons, if_pos rfl]) (by omega) (by omega) (by omega)) fun v d1 n1 hR hl1 hle1 hok1 => ?_
  obtain ⟨rfl, rfl, rfl⟩ := hR
  obtain ⟨p, hp⟩ : ∃ p, pickV l 0 (Int.toNat 5) = p := ⟨_, rfl⟩
  have hp5 : p < 5 := hp ▸ pickV_lt (by decide)
  rw [hp]
  have hw1 : IntKind.i64.wrap (1 + (p : Int)) = ((1 + p : Nat) : Int) := by rw [wrap_id (by omega) (by omega)]; omega
  simp +decide -implicitDefEqProofs only [stp,code_seq,evWanted,evOp,val,absV,evBin,evConv,evBuiltin,cmpInt,vals,partsOf,isAggD,cellsOf,isAggV,Nat.reduceEqDiff,Nat.reduceLT,Nat.reduceBEq,Nat.reduceBNe,reduceCtorEq,if_true,if_false,reduceIte,forall_const,IntKind.bits,IntKind.signed,eq_self_iff_true,finalOf,resultOf,cellsGood,AC.isCell,senv_mem,lift, bld,spliceAll,allFields,places,splice,Nat.reduceAdd,Nat.reduceSub,Nat.reduceMul,Nat.reduceMod,Nat.reduceLeDiff,List.range,List.range.loop,pfind, ltyA, lenv_mem, none1, hnt, g3, hw1]
  refine code_loop lenv_ok none1_ok (fun q sl d' n' => sl.nt = 34 ∧ n + 1 ≤ n' ∧ Adds n d d' ∧ sl.get 3 = .c (.ptr n 0) ∧ sl.get 5 = .c (.int .i64 q) ∧ ∃ (At : Nat) (ls : List Ln) (K : AC), At + q * 162 ≤ 1 + 5 * 162 ∧ sl.get 4 = .c K ∧ PK d' n x At ∧ LinesT n d' K ls ∧ (∀ r ∈ ls, LnOk r) ∧ ls.length + q ≤ 5) (1 + p) ?_ ?_
  · refine ⟨by simp only [nt_put, hnt], Nat.le_refl _, ((Adds.refl n d).cons (Nat.le_refl n)).cons (Nat.le_refl n), ?_⟩
    simp +decide -implicitDefEqProofs only [stp,code_seq,evWanted,evOp,val,absV,evBin,evConv,evBuiltin,cmpInt,vals,partsOf,isAggD,cellsOf,isAggV,Nat.reduceEqDiff,Nat.reduceLT,Nat.reduceBEq,Nat.reduceBNe,reduceCtorEq,if_true,if_false,reduceIte,forall_const,IntKind.bits,IntKind.signed,eq_self_iff_true,finalOf,resultOf,cellsGood,AC.isCell,senv_mem,lift, hnt, g3]
    exact ⟨1, [], .sl0, by omega, rfl, pk_top (At := 0), .inl ⟨rfl, rfl⟩, by simp, by simp; omega⟩
  clear hnt g3 hl1 hle1 hok1
  rintro q sl d1 n1 ⟨hnt, hn1, hA1, g3, g5, At, ls, K, hAt, g4, hpk, hK, hok, hls⟩ hl1 hs1 Q' hQ1 hQ2
  by_cases h1 : (q : Int) > 0
  · have hixn := (hl1 n _ hpk).1
    have hc3 : cost 3 = 160 := by decide
    obtain ⟨pa, hpa⟩ : ∃ p, pickV l At (Int.toNat 5) = p := ⟨_, rfl⟩
    obtain ⟨pb, hpb⟩ : ∃ p, pickV l (At + 1) (Int.toNat 5) = p := ⟨_, rfl⟩
    have hpa5 : pa < 5 := hpa ▸ pickV_lt (by decide)
    have hPa : ∀ B m, get ([] :: B) n = some (.cells 54 [x, .int .i64 (At : Int)]) → callPick l x n 19 [.c (.ptr n 0), .c (.int .i64 5)] B [] m = some (.c (.int .i64 pa), [(n, some (.cells 54 [x, .int .i64 ((At + 1 : Nat) : Int)]))], m) := fun B m h => by rw [callPick_eq h (by omega) (by omega) (by omega), hpa]
    have hPb : ∀ B m, get ([] :: B) n = some (.cells 54 [x, .int .i64 ((At + 1 : Nat) : Int)]) → callPick l x n 19 [.c (.ptr n 0), .c (.int .i64 5)] B [] m = some (.c (.int .i64 pb), [(n, some (.cells 54 [x, .int .i64 ((At + 1 + 1 : Nat) : Int)]))], m) := fun B m h => by rw [callPick_eq h (by omega) (by omega) (by omega), hpb]
    obtain ⟨t, ht1, ht2, ht3, _⟩ := refs5 pa hpa5
    have hp0 : (0 : Int) ≤ (pa : Int) := by omega
    have hp1 : (pa : Int) < ((5 : Nat) : Int) := by omega
    have hpkG : get [d1] n = some (.cells 54 [x, .int .i64 (At : Int)]) := hpk
    have e1 : ¬ n1 = n := by omega
    have e2 : ¬ n = n1 := by omega
    have e3 : (n == n1) = false := by simpa using e2
    have e4 : ¬ n1 + 1 = n := by omega
    have e5 : ¬ n = n1 + 1 := by omega
    have e6 : (n == n1 + 1) = false := by simpa using e5
    have e7 : ¬ n1 = n1 + 1 := by omega
    have e8 : ¬ n1 + 1 = n1 := by omega
    have f9 : ¬ ((At + 1 : Nat) : Int) = (At : Int) := by omega
    have f10 : ¬ (At : Int) = ((At + 1 : Nat) : Int) := by omega
    simp +decide -implicitDefEqProofs only [stp,code_seq,evWanted,evOp,val,absV,evBin,evConv,evBuiltin,cmpInt,vals,partsOf,isAggD,cellsOf,isAggV,Nat.reduceEqDiff,Nat.reduceLT,Nat.reduceBEq,Nat.reduceBNe,reduceCtorEq,if_true,if_false,reduceIte,forall_const,IntKind.bits,IntKind.signed,eq_self_iff_true,finalOf,resultOf,cellsGood,AC.isCell,senv_mem,lift, bld,spliceAll,allFields,places,splice,Nat.reduceAdd,Nat.reduceSub,Nat.reduceMul,Nat.reduceMod,Nat.reduceLeDiff,List.range,List.range.loop,pfind, ltyA, lenv_mem, none1, hnt, g3, g4, g5, h1]
    apply code_drawnH lenv_ok (callPick_ok (ix := n) hx) (by decide) _ (by rfl) [[n, n], [], [], [n], [n], [], [], [], [], [], []]
    · simp +decide -implicitDefEqProofs only [stp,code_seq,evWanted,evOp,val,absV,evBin,evConv,evBuiltin,cmpInt,vals,partsOf,isAggD,cellsOf,isAggV,Nat.reduceEqDiff,Nat.reduceLT,Nat.reduceBEq,Nat.reduceBNe,reduceCtorEq,if_true,if_false,reduceIte,forall_const,IntKind.bits,IntKind.signed,eq_self_iff_true,finalOf,resultOf,cellsGood,AC.isCell,senv_mem,lift, flat,d_nil,d_cons,d_true,d_false,d_some,d_some1,slotsAt_get,slotsAt_nt,get_mk_cons,get_mk,wrs_nil,wrs_cons,wrs_none,get_heapAt,get_seen_nil,get_seen_cons,get_seen_one,List.cons_append,List.nil_append,Nat.reduceSub,Nat.reduceAdd,Nat.add_one_sub_one,bitOf, bld,spliceAll,allFields,places,splice,Nat.reduceAdd,Nat.reduceSub,Nat.reduceMul,Nat.reduceMod,Nat.reduceLeDiff,List.range,List.range.loop,pfind, ltyA, lenv_mem, hnt, g3, g4, g5, hPa, hPb, hpkG, hp0, hp1, ht1, Int.toNat_natCast, e1, e2, e4, e5, e7, e8]
      rfl
    · have w1 : n < n1 := by omega
      have w2 : n < n1 + 1 := by omega
      simp +decide [laters, laterIds, List.filter_cons, w1, w2]
    · simp [subAll]
    · simp +decide -implicitDefEqProofs only [stp,code_seq,evWanted,evOp,val,absV,evBin,evConv,evBuiltin,cmpInt,vals,partsOf,isAggD,cellsOf,isAggV,Nat.reduceEqDiff,Nat.reduceLT,Nat.reduceBEq,Nat.reduceBNe,reduceCtorEq,if_true,if_false,reduceIte,forall_const,IntKind.bits,IntKind.signed,eq_self_iff_true,finalOf,resultOf,cellsGood,AC.isCell,senv_mem,lift, flat,h_nil,h_cons,h_true,h_false,h_some,h_some1,slotsAt_get,slotsAt_nt,get_mk_cons,get_mk,wrs_nil,wrs_cons,wrs_none,h_heap,get_seen_nil,get_seen_cons,get_seen_one,List.cons_append,List.nil_append,Nat.reduceSub,Nat.reduceAdd,Nat.add_one_sub_one,bitOf,List.getD_cons_zero,List.getD_cons_succ,List.any_cons,List.any_nil,Bool.or_false,Bool.or_self, bld,spliceAll,allFields,places,splice,Nat.reduceAdd,Nat.reduceSub,Nat.reduceMul,Nat.reduceMod,Nat.reduceLeDiff,List.range,List.range.loop,pfind, ltyA, lenv_mem, hnt, g3, g4, g5, hPa, hPb, hpkG, hp0, hp1, ht1, Int.toNat_natCast, e1, e2, e3, e4, e5, e6, e7, e8]
      rfl
    · simp +decide [laters, laterIds, subAll, subIds]
    · simp +decide -implicitDefEqProofs only [stp,code_seq,evWanted,evOp,val,absV,evBin,evConv,evBuiltin,cmpInt,vals,partsOf,isAggD,cellsOf,isAggV,Nat.reduceEqDiff,Nat.reduceLT,Nat.reduceBEq,Nat.reduceBNe,reduceCtorEq,if_true,if_false,reduceIte,forall_const,IntKind.bits,IntKind.signed,eq_self_iff_true,finalOf,resultOf,cellsGood,AC.isCell,senv_mem,lift, flat,h_nil,h_cons,h_true,h_false,h_some,h_some1,slotsAt_get,slotsAt_nt,get_mk_cons,get_mk,wrs_nil,wrs_cons,wrs_none,h_heap,get_seen_nil,get_seen_cons,get_seen_one,List.cons_append,List.nil_append,Nat.reduceSub,Nat.reduceAdd,Nat.add_one_sub_one,bitOf,List.getD_cons_zero,List.getD_cons_succ,List.any_cons,List.any_nil,Bool.or_false,Bool.or_self, bld,spliceAll,allFields,places,splice,Nat.reduceAdd,Nat.reduceSub,Nat.reduceMul,Nat.reduceMod,Nat.reduceLeDiff,List.range,List.range.loop,pfind, ltyA, lenv_mem, none1, hnt, g3, g4, g5]
      have hA2 : Adds n d ((n1 + 1, some (AObj.cells 38 [.str t, .bool ((pb : Int) == 4), .int .i64 0, .str [], .sl0, .int .i64 0, .int .i64 0, .sl0])) :: (n1 + 1, some (AObj.cells 38 [.str [], .bool false, .int .i64 0, .str [], .sl0, .int .i64 0, .int .i64 0, .sl0])) :: (n, some (AObj.cells 54 [x, .int .i64 ((At + 1 + 1 : Nat) : Int)])) :: (n, some (AObj.cells 54 [x, .int .i64 ((At + 1 : Nat) : Int)])) ::
          (n1, some (AObj.cells 9 [.str [97], .str [98], .str [99], .str [119, 111, 114, 100], .str [120, 45, 49]])) :: d1) := ((((hA1.cons (j := n1) (by omega)).cons (j := n) (Nat.le_refl n)).cons (j := n) (Nat.le_refl n)).cons (j := n1 + 1) (by omega)).cons (j := n1 + 1) (by omega)
      obtain ⟨D, hD⟩ : ∃ D, (n1 + 1, some (AObj.cells 38 [AC.str t, .bool ((pb : Int) == 4), .int .i64 0, .str [], .sl0, .int .i64 0, .int .i64 0, .sl0])) :: (n1 + 1, some (AObj.cells 38 [.str [], .bool false, .int .i64 0, .str [], .sl0, .int .i64 0, .int .i64 0, .sl0])) :: (n, some (AObj.cells 54 [x, .int .i64 ((At + 1 + 1 : Nat) : Int)])) :: (n, some (AObj.cells 54 [x, .int .i64 ((At + 1 : Nat) : Int)])) ::
          (n1, some (AObj.cells 9 [.str [97], .str [98], .str [99], .str [119, 111, 114, 100], .str [120, 45, 49]])) :: d1 = D := ⟨_, rfl⟩
      have hpkD : PK D n x (At + 1 + 1) := by rw [← hD, PK, get_cons, if_neg e4, get_cons, if_neg e4, get_cons, if_pos rfl]
      have hLD : get [D] (n1 + 1) = some (.cells 38 [AC.str t, .bool ((pb : Int) == 4), .int .i64 0, .str [], .sl0, .int .i64 0, .int .i64 0, .sl0]) := by rw [← hD, get_cons, if_pos rfl]
      have hkeep : ∀ i, i < n1 → i ≠ n → get [D] i = get [d1] i := fun i h1 h2 => by
        rw [← hD, get_cons, if_neg (by omega), get_cons, if_neg (by omega), get_cons, if_neg (by omega), get_cons, if_neg (by omega), get_cons, if_neg (by omega)]
      rw [hD] at hA2 ⊢
      clear hD
      refine call_mono (expr_ok hx 3 B0 D (n1 + 1 + 1) (At + 1 + 1) hpkD (by omega)) fun v d4 n4 hR hl4 hle4 hok4 => ?_
      obtain ⟨e', cs', At2, rfl, htr, hwe, hc6, hcg, hpk4, hAt4, hS4⟩ := hR
      have hL4 := (hS4.keeps (n1 + 1) (by omega) (by omega)).trans hLD
      have hk4 : ∀ i, i < n1 → i ≠ n → get [d4] i = get [d1] i := fun i h1 h2 => (hS4.keeps i (by omega) h2).trans (hkeep i h1 h2)
      have hA4 : Adds n d d4 := hA2.trans (hS4.adds' (Nat.le_refl n) (by omega)) (Nat.le_refl n)
      have hT6 : List.take 6 cs' = cs' := List.take_of_length_le (by omega)
      have hg6 : cs'.all AC.isCell = true := hcg
      have hwq : IntKind.i64.wrap ((q : Int) - 1) = ((q - 1 : Nat) : Int) := by rw [wrap_id (by omega) (by omega)]; omega
      have w1 : ¬ n4 = n1 + 1 := by omega
      have w2 : ¬ n1 + 1 = n4 := by omega
      have w3 : ¬ n4 = n := by omega
      have w4 : ¬ n4 + 1 = n := by omega
      have w5 : ¬ n1 + 1 = n := by omega
      have w6 : ¬ n4 + 1 = n1 + 1 := by omega
      have hex4 : isEx [newOnly (n1 + 1 + 1) d4] e' cs' = true := htr
      rcases hK with ⟨rfl, rfl⟩ | ⟨jl, lcs, hjl, rfl, hne, hgl, hll, hlg, hlt⟩
      · simp +decide -implicitDefEqProofs only [stp,code_seq,evWanted,evOp,val,absV,evBin,evConv,evBuiltin,cmpInt,vals,partsOf,isAggD,cellsOf,isAggV,Nat.reduceEqDiff,Nat.reduceLT,Nat.reduceBEq,Nat.reduceBNe,reduceCtorEq,if_true,if_false,reduceIte,forall_const,IntKind.bits,IntKind.signed,eq_self_iff_true,finalOf,resultOf,cellsGood,AC.isCell,senv_mem,lift, flat,h_nil,h_cons,h_true,h_false,h_some,h_some1,slotsAt_get,slotsAt_nt,get_mk_cons,get_mk,wrs_nil,wrs_cons,wrs_none,h_heap,get_seen_nil,get_seen_cons,get_seen_one,List.cons_append,List.nil_append,Nat.reduceSub,Nat.reduceAdd,Nat.add_one_sub_one,bitOf,List.getD_cons_zero,List.getD_cons_succ,List.any_cons,List.any_nil,Bool.or_false,Bool.or_self, bld,spliceAll,allFields,places,splice,Nat.reduceAdd,Nat.reduceSub,Nat.reduceMul,Nat.reduceMod,Nat.reduceLeDiff,List.range,List.range.loop,pfind, ltyA, lenv_mem, none1, hnt, g3, g4, g5, hL4, hc6, hg6, hT6, evAppend, hwq, w1, w2, w3, w4, w5, w6]
        refine hQ1 (q - 1) _ _ _ (by omega) ⟨by simp only [nt_put, hnt], by omega, ((hA4.cons (j := n1 + 1) (by omega)).cons (j := n4) (by omega)).cons (j := n4 + 1) (by omega), ?_⟩
        simp +decide -implicitDefEqProofs only [stp,code_seq,evWanted,evOp,val,absV,evBin,evConv,evBuiltin,cmpInt,vals,partsOf,isAggD,cellsOf,isAggV,Nat.reduceEqDiff,Nat.reduceLT,Nat.reduceBEq,Nat.reduceBNe,reduceCtorEq,if_true,if_false,reduceIte,forall_const,IntKind.bits,IntKind.signed,eq_self_iff_true,finalOf,resultOf,cellsGood,AC.isCell,senv_mem,lift, flat,h_nil,h_cons,h_true,h_false,h_some,h_some1,slotsAt_get,slotsAt_nt,get_mk_cons,get_mk,wrs_nil,wrs_cons,wrs_none,h_heap,get_seen_nil,get_seen_cons,get_seen_one,List.cons_append,List.nil_append,Nat.reduceSub,Nat.reduceAdd,Nat.add_one_sub_one,bitOf,List.getD_cons_zero,List.getD_cons_succ,List.any_cons,List.any_nil,Bool.or_false,Bool.or_self, hnt, g3, g4, g5, true_and]
        refine ⟨At2, [⟨t, ((pb : Int) == 4), e'⟩], .sl (n4 + 1) 1, by omega, rfl, ?_, .inr ⟨n4 + 1, .str t :: .bool ((pb : Int) == 4) :: cs', by omega, rfl, by simp, ?_, by simp [hc6], by rw [List.all_cons, List.all_cons, hcg]; rfl, ?_⟩, ?_, by simp at hls ⊢; omega⟩
        · rw [PK, get_cons, if_neg (by omega), get_cons, if_neg (by omega), get_cons, if_neg (by omega)]; exact hpk4
        · rw [get_cons, if_pos rfl]
        · refine isLines_snoc (r := ⟨t, ((pb : Int) == 4), e'⟩) hc6 (isEx_keep (H := [newOnly (n1 + 1 + 1) d4]) (fun i o ho => ?_) hex4) [] [] rfl trivial
          rw [get_newOnly] at ho
          split at ho
          · rename_i hi
            have := (hl4 i o ho).1
            rw [get_cons, if_neg (by omega), get_newOnly, if_pos (by omega), get_cons, if_neg (by omega), get_cons, if_neg (by omega), get_cons, if_neg (by omega)]
            exact ho
          · cases ho
        · intro r hr
          rw [List.mem_singleton.1 hr]
          exact ⟨hwe, ht2, ht3⟩
      · have v1 : ¬ n4 = jl := by have := (hl1 jl _ hgl).1; omega
        have v2 : (jl == n4) = false := by simpa using fun e => v1 e.symm
        have v3 : ¬ jl = n := by omega
        have v4 : ¬ ls.length > 100000 := by omega
        have v5 := (hk4 jl (hl1 jl _ hgl).1 v3).trans hgl
        have v6 : ¬ n1 + 1 = jl := by have := (hl1 jl _ hgl).1; omega
        have v7 : ¬ jl = n1 + 1 := by have := (hl1 jl _ hgl).1; omega
        simp +decide -implicitDefEqProofs only [stp,code_seq,evWanted,evOp,val,absV,evBin,evConv,evBuiltin,cmpInt,vals,partsOf,isAggD,cellsOf,isAggV,Nat.reduceEqDiff,Nat.reduceLT,Nat.reduceBEq,Nat.reduceBNe,reduceCtorEq,if_true,if_false,reduceIte,forall_const,IntKind.bits,IntKind.signed,eq_self_iff_true,finalOf,resultOf,cellsGood,AC.isCell,senv_mem,lift, flat,h_nil,h_cons,h_true,h_false,h_some,h_some1,slotsAt_get,slotsAt_nt,get_mk_cons,get_mk,wrs_nil,wrs_cons,wrs_none,h_heap,get_seen_nil,get_seen_cons,get_seen_one,List.cons_append,List.nil_append,Nat.reduceSub,Nat.reduceAdd,Nat.add_one_sub_one,bitOf,List.getD_cons_zero,List.getD_cons_succ,List.any_cons,List.any_nil,Bool.or_false,Bool.or_self, bld,spliceAll,allFields,places,splice,Nat.reduceAdd,Nat.reduceSub,Nat.reduceMul,Nat.reduceMod,Nat.reduceLeDiff,List.range,List.range.loop,pfind, ltyA, lenv_mem, none1, hnt, g3, g4, g5, hL4, hc6, hg6, hT6, evAppend, hwq, w1, w2, w3, w4, w5, w6, v1, v2, v3, v4, v5, v6, v7, hll, Bool.or_self]
        have hjn := (hl1 jl _ hgl).1
        refine hQ1 (q - 1) _ _ _ (by omega) ⟨by simp only [nt_put, hnt], by omega, (((hA4.cons (j := n1 + 1) (by omega)).cons (j := n4) (by omega)).cons (j := jl) (by omega)).cons (j := n4 + 1) (by omega), ?_⟩
        simp +decide -implicitDefEqProofs only [stp,code_seq,evWanted,evOp,val,absV,evBin,evConv,evBuiltin,cmpInt,vals,partsOf,isAggD,cellsOf,isAggV,Nat.reduceEqDiff,Nat.reduceLT,Nat.reduceBEq,Nat.reduceBNe,reduceCtorEq,if_true,if_false,reduceIte,forall_const,IntKind.bits,IntKind.signed,eq_self_iff_true,finalOf,resultOf,cellsGood,AC.isCell,senv_mem,lift, flat,h_nil,h_cons,h_true,h_false,h_some,h_some1,slotsAt_get,slotsAt_nt,get_mk_cons,get_mk,wrs_nil,wrs_cons,wrs_none,h_heap,get_seen_nil,get_seen_cons,get_seen_one,List.cons_append,List.nil_append,Nat.reduceSub,Nat.reduceAdd,Nat.add_one_sub_one,bitOf,List.getD_cons_zero,List.getD_cons_succ,List.any_cons,List.any_nil,Bool.or_false,Bool.or_self, hnt, g3, g4, g5, true_and]
        refine ⟨At2, ls ++ [⟨t, ((pb : Int) == 4), e'⟩], .sl (n4 + 1) (ls.length + 1), by omega, rfl, ?_, .inr ⟨n4 + 1, lcs ++ .str t :: .bool ((pb : Int) == 4) :: cs', by omega, by simp, by simp, ?_, by simp [hc6, hll]; omega, by rw [List.all_append, hlg, List.all_cons, List.all_cons, hcg]; rfl, ?_⟩, ?_, by simp; omega⟩
        · rw [PK, get_cons, if_neg (by omega), get_cons, if_neg (by omega), get_cons, if_neg (by omega), get_cons, if_neg (by omega)]; exact hpk4
        · rw [get_cons, if_pos rfl]
        · refine isLines_snoc (r := ⟨t, ((pb : Int) == 4), e'⟩) hc6 (isEx_keep (H := [newOnly (n1 + 1 + 1) d4]) (fun i o ho => ?_) hex4) ls lcs hll (isLines_keep (H := [(jl, none) :: newOnly (n + 1) d1]) (fun i o ho => ?_) ls lcs hlt)
          · rw [get_newOnly] at ho
            split at ho
            · rename_i hi
              have := (hl4 i o ho).1
              rw [get_cons, if_neg (by omega), get_newOnly, if_pos (by omega), get_cons, if_neg (by omega), get_cons, if_neg (by omega), get_cons, if_neg (by omega), get_cons, if_neg (by omega)]
              exact ho
            · cases ho
          · rw [get_cons] at ho
            split at ho
            · cases ho
            · rename_i hij
              rw [get_newOnly] at ho
              split at ho
              · rename_i hi
                have := (hl1 i o ho).1
                rw [get_cons, if_neg (by omega), get_newOnly, if_pos hi, get_cons, if_neg (by omega), get_cons, if_neg hij, get_cons, if_neg (by omega), get_cons, if_neg (by omega), hk4 i this (by omega)]
                exact ho
              · cases ho
        · intro r hr
          rcases List.mem_append.1 hr with hr | hr
          · exact hok r hr
          · rw [List.mem_singleton.1 hr]
            exact ⟨hwe, ht2, ht3⟩
  · simp +decide -implicitDefEqProofs only [stp,code_seq,evWanted,evOp,val,absV,evBin,evConv,evBuiltin,cmpInt,vals,partsOf,isAggD,cellsOf,isAggV,Nat.reduceEqDiff,Nat.reduceLT,Nat.reduceBEq,Nat.reduceBNe,reduceCtorEq,if_true,if_false,reduceIte,forall_const,IntKind.bits,IntKind.signed,eq_self_iff_true,finalOf,resultOf,cellsGood,AC.isCell,senv_mem,lift, bld,spliceAll,allFields,places,splice,Nat.reduceAdd,Nat.reduceSub,Nat.reduceMul,Nat.reduceMod,Nat.reduceLeDiff,List.range,List.range.loop,pfind, ltyA, lenv_mem, none1, hnt, g3, g4, g5, h1]
    refine hQ2 _ _ _ _ (by simp) ?_
    simp +decide -implicitDefEqProofs only [stp,code_seq,evWanted,evOp,val,absV,evBin,evConv,evBuiltin,cmpInt,vals,partsOf,isAggD,cellsOf,isAggV,Nat.reduceEqDiff,Nat.reduceLT,Nat.reduceBEq,Nat.reduceBNe,reduceCtorEq,if_true,if_false,reduceIte,forall_const,IntKind.bits,IntKind.signed,eq_self_iff_true,finalOf,resultOf,cellsGood,AC.isCell,senv_mem,lift, bld,spliceAll,allFields,places,splice,Nat.reduceAdd,Nat.reduceSub,Nat.reduceMul,Nat.reduceMod,Nat.reduceLeDiff,List.range,List.range.loop,pfind, ltyA, lenv_mem, none1, hnt, g3, g4, g5]
    refine hQ _ _ _ _ (.c K) (by simp) ?_ ⟨K, ls, rfl, hK, hok, by omega, hA1⟩
    simp +decide -implicitDefEqProofs only [stp,code_seq,evWanted,evOp,val,absV,evBin,evConv,evBuiltin,cmpInt,vals,partsOf,isAggD,cellsOf,isAggV,Nat.reduceEqDiff,Nat.reduceLT,Nat.reduceBEq,Nat.reduceBNe,reduceCtorEq,if_true,if_false,reduceIte,forall_const,IntKind.bits,IntKind.signed,eq_self_iff_true,finalOf,resultOf,cellsGood,AC.isCell,senv_mem,lift, Tryz.f11, hnt]

end Go.Proofs.YtdpielghjaehbaaGreat.Ev
