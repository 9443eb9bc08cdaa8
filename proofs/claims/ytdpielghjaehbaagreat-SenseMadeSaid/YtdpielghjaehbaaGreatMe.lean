/- regletlaw06.SenseMade: the walk. -/
import Derived.Test.YtdpielghjaehbaaGreatMd
import Derived.Test.YtdpielghjaehbaaGreatLp
set_option linter.unusedSectionVars false
set_option linter.unusedSimpArgs false
set_option linter.unusedVariables false
namespace Go.Proofs.YtdpielghjaehbaaGreat.Ev
open Go.RowKit

variable {mem : Nat → Nat → Option Value} {B0 : Nat}

theorem isLines_at {H : List Seg} : ∀ (ls : List Ln) (cs : List AC) (i : Nat) (r : Ln), isLines H ls cs → cs.length = ls.length * 8 → ls[i]? = some r → ∃ ecs : List AC, ecs.length = 6 ∧ cs[i * 8]? = some (.str r.nm) ∧ List.take 6 (List.drop (i * 8 + 2) cs) = ecs ∧ isEx H r.ex ecs = true
  | [], _, i, r, _, _, hr => by simp at hr
  | u :: ls, cs, 0, r, ⟨⟨ecs, h1, h2⟩, _⟩, hl, hr => by
    simp only [List.length_cons] at hl
    simp only [List.getElem?_cons_zero, Option.some.injEq] at hr
    subst hr
    have h8 : (cs.take 8).length = 8 := by rw [List.length_take]; omega
    refine ⟨ecs, by rw [h1] at h8; simpa using h8, ?_, ?_, h2⟩
    · have : (cs.take 8)[0]? = some (.str u.nm) := by rw [h1]; rfl
      rw [List.getElem?_take] at this
      simpa using this
    · have : (cs.take 8).drop 2 = ecs := by rw [h1]; rfl
      rw [List.drop_take] at this
      simpa using this
  | u :: ls, cs, i + 1, r, ⟨_, h3⟩, hl, hr => by
    simp only [List.length_cons] at hl
    simp only [List.getElem?_cons_succ] at hr
    obtain ⟨ecs, k1, k2, k3, k4⟩ := isLines_at ls (cs.drop 8) i r h3 (by rw [List.length_drop]; omega) hr
    refine ⟨ecs, k1, ?_, ?_, k4⟩
    · rw [List.getElem?_drop] at k2
      rw [← k2]; congr 1; omega
    · rw [List.drop_drop] at k3
      rw [← k3]; congr 2; omega

theorem sameBytes_self : ∀ l : List UInt8, sameBytes l l = true
  | [] => rfl
  | a :: l => by simp [sameBytes, sameBytes_self l]

theorem isRus_snoc {H : List Seg} {r : Ru} {ecs : List AC} (h6 : ecs.length = 6) (hx : isEx H r.ex ecs = true) : ∀ (g : List Ru) (cs : List AC), cs.length = g.length * 7 → isRus H g cs = true → isRus H (g ++ [r]) (cs ++ (.str r.name :: ecs)) = true
  | [], cs, hl, _ => by
    have hk : cs = [] := List.eq_nil_of_length_eq_zero (by simpa using hl)
    subst hk
    simp [isRus, List.take_of_length_le (show ecs.length ≤ 6 by omega), hx, sameBytes_self]
  | q :: g, cs, hl, h => by
    simp only [List.length_cons] at hl
    obtain ⟨c, cs, rfl⟩ : ∃ c cs', cs = c :: cs' := by
      cases cs with
      | nil => simp at hl
      | cons c cs => exact ⟨c, cs, rfl⟩
    simp only [List.length_cons] at hl
    simp only [isRus, Bool.and_eq_true, List.cons_append] at h ⊢
    obtain ⟨h1, h2⟩ := h
    refine ⟨?_, ?_⟩
    · cases c <;> first | cases h1 | skip
      simp only at h1 ⊢
      rw [List.take_append_of_le_length (by omega)]; exact h1
    · rw [List.drop_succ_cons] at h2 ⊢
      rw [List.drop_append_of_le_length (by omega)]
      exact isRus_snoc h6 hx g _ (by rw [List.length_drop]; omega) h2

def toRu (r : Ln) : Ru := ⟨r.nm, r.ex⟩

/-- The rules so far: the expressions lie in what came before. -/
def RulesT (H : Seg) (n : Nat) (d : Seg) (G : AC) (g : List Ru) : Prop := (g = [] ∧ G = .sl0) ∨ ∃ jg gcs, n ≤ jg ∧ G = .sl jg g.length ∧ g ≠ [] ∧ get [d] jg = some (.cells 40 gcs) ∧ gcs.length = g.length * 7 ∧ gcs.all AC.isCell = true ∧ isRus [H] g gcs = true

def GOk (g : List Ru) : Prop := g.length ≤ 5 ∧ ∀ r ∈ g, wfEx NMs r.ex = true ∧ r.name ∈ NMs ∧ r.name ≠ [45]

theorem isRus_keep {H H' : List Seg} (h : ∀ i o, get H i = some o → get H' i = some o) {l : List Ru} {cs : List AC} (e : isRus H l cs = true) : isRus H' l cs = true := by
  have := isRus_sh (H := H) (H' := H') (n := 0) (fun i o ho => by rw [shO_zero, Nat.add_zero]; exact h i o ho) l cs e
  rwa [show cs.map (shC 0) = cs by rw [show shC 0 = id from funext shC_zero]; simp] at this

theorem RulesT.rules {n : Nat} {d d' : Seg} {G : AC} {g : List Ru} (hl : Live d n) (hA : Adds n d d') (h : RulesT d n d' G g) : isRules [d'] G g = true := by
  rcases h with ⟨rfl, rfl⟩ | ⟨jg, gcs, h1, rfl, h3, h4, h5, h6, h7⟩
  · rfl
  · simp only [isRules, h4, beq_self_eq_true, Bool.true_and]
    exact isRus_keep (fun i o ho => (hA.keeps i (hl i o ho).1).trans ho) h7

theorem gok_of {ls : List Ln} (h : ∀ r ∈ ls, LnOk r) (h5 : ls.length ≤ 5) : GOk (ls.map toRu) := by
  refine ⟨by rw [List.length_map]; exact h5, fun r hr => ?_⟩
  obtain ⟨u, hu, rfl⟩ := List.mem_map.1 hr
  exact h u hu

theorem ruleOf_none {nm : List UInt8} : ∀ {g : List Ru}, (∀ r ∈ g, r.name ≠ nm) → ruleOf nm g = none
  | [], _ => rfl
  | r :: g, h => by
    unfold ruleOf
    rw [if_neg (h r (List.mem_cons_self ..))]
    exact ruleOf_none fun u hu => h u (List.mem_cons_of_mem _ hu)

set_option maxRecDepth 20000 in
set_option maxHeartbeats 4000000 in
theorem senseMade_abs (x : AC) (l : List UInt8) (hx : BytesIn mem x l) (s : List UInt8) (utf small : Bool) (d : Seg) (n : Nat) :
    CallsA Tryz.prog (lenv mem) B0 4 [.c x, .c (.str s), .c (.bool utf), .c (.bool small)] d n fun v d' n' => v = .c (.bool true) := by
  refine callsA_code lenv_ok none1_ok Tryz.func4 rfl (by decide) rfl rfl (by simp) fun hl _ Q hQ => ?_
  simp +decide -implicitDefEqProofs only [stp,code_seq,evWanted,evOp,val,absV,evBin,evConv,evBuiltin,cmpInt,vals,partsOf,isAggD,cellsOf,isAggV,Nat.reduceEqDiff,Nat.reduceLT,Nat.reduceBEq,Nat.reduceBNe,reduceCtorEq,if_true,if_false,reduceIte,forall_const,IntKind.bits,IntKind.signed,eq_self_iff_true,finalOf,resultOf,cellsGood,AC.isCell,senv_mem,lift, bld,spliceAll,allFields,places,splice,Nat.reduceAdd,Nat.reduceSub,Nat.reduceMul,Nat.reduceMod,Nat.reduceLeDiff,List.range,List.range.loop,pfind, Tryz.f4, ltyA, lenv_mem, none1]
  refine call_mono (made_ok hx d n) fun v d1 n1 hR hl1 hle1 hok1 => ?_
  obtain ⟨K, ls, rfl, hK, hLn, hls5, hA1⟩ := hR
  simp +decide -implicitDefEqProofs only [stp,code_seq,evWanted,evOp,val,absV,evBin,evConv,evBuiltin,cmpInt,vals,partsOf,isAggD,cellsOf,isAggV,Nat.reduceEqDiff,Nat.reduceLT,Nat.reduceBEq,Nat.reduceBNe,reduceCtorEq,if_true,if_false,reduceIte,forall_const,IntKind.bits,IntKind.signed,eq_self_iff_true,finalOf,resultOf,cellsGood,AC.isCell,senv_mem,lift, bld,spliceAll,allFields,places,splice,Nat.reduceAdd,Nat.reduceSub,Nat.reduceMul,Nat.reduceMod,Nat.reduceLeDiff,List.range,List.range.loop,pfind, ltyA, lenv_mem, none1, -code_seq]
  rw [code_seq]
  refine code_cutR (fun sl d' n' => sl.nt = 49 ∧ Live d' n' ∧ sl.get 0 = .c x ∧ sl.get 1 = .c (.str s) ∧ sl.get 2 = .c (.bool utf) ∧ sl.get 3 = .c (.bool small) ∧ ∃ (G : AC) (g : List Ru), sl.get 9 = .c G ∧ isRules [d'] G g = true ∧ GOk g) ?_ ?_
  · intro Q0 hQ0
    simp +decide -implicitDefEqProofs only [stp,code_seq,evWanted,evOp,val,absV,evBin,evConv,evBuiltin,cmpInt,vals,partsOf,isAggD,cellsOf,isAggV,Nat.reduceEqDiff,Nat.reduceLT,Nat.reduceBEq,Nat.reduceBNe,reduceCtorEq,if_true,if_false,reduceIte,forall_const,IntKind.bits,IntKind.signed,eq_self_iff_true,finalOf,resultOf,cellsGood,AC.isCell,senv_mem,lift, bld,spliceAll,allFields,places,splice,Nat.reduceAdd,Nat.reduceSub,Nat.reduceMul,Nat.reduceMod,Nat.reduceLeDiff,List.range,List.range.loop,pfind, ltyA, lenv_mem, none1]
    refine code_loop lenv_ok none1_ok (fun q sl d' n' => sl.nt = 49 ∧ n1 ≤ n' ∧ Adds n1 d1 d' ∧ sl.get 0 = .c x ∧ sl.get 1 = .c (.str s) ∧ sl.get 2 = .c (.bool utf) ∧ sl.get 3 = .c (.bool small) ∧ sl.get 10 = .c K ∧ ∃ (i : Nat) (G : AC) (g : List Ru), i + q = ls.length ∧ sl.get 11 = .c (.int .i64 i) ∧ sl.get 9 = .c G ∧ g = (ls.take i).map toRu ∧ RulesT d1 n1 d' G g) ls.length ?_ ?_
    · refine ⟨by simp only [nt_put], Nat.le_refl _, Adds.refl n1 d1, ?_⟩
      simp +decide -implicitDefEqProofs only [stp,code_seq,evWanted,evOp,val,absV,evBin,evConv,evBuiltin,cmpInt,vals,partsOf,isAggD,cellsOf,isAggV,Nat.reduceEqDiff,Nat.reduceLT,Nat.reduceBEq,Nat.reduceBNe,reduceCtorEq,if_true,if_false,reduceIte,forall_const,IntKind.bits,IntKind.signed,eq_self_iff_true,finalOf,resultOf,cellsGood,AC.isCell,senv_mem,lift]
      exact ⟨0, .sl0, [], by omega, rfl, rfl, rfl, .inl ⟨rfl, rfl⟩⟩
    rintro q sl d2 n2 ⟨hnt, hn2, hA2, g0, g1, g2, g3, g10, i, G, g, hiq, g11, g9, hge, hG⟩ hl2 hs2 Q' hQ1 hQ2
    rcases hK with ⟨rfl, rfl⟩ | ⟨jl, lcs, hjl, rfl, hne, hgl, hll, hlg, hlt⟩
    · have h1 : ¬ (i : Int) < 0 := by omega
      have hiq' : i + q = 0 := hiq
      simp +decide -implicitDefEqProofs only [stp,code_seq,evWanted,evOp,val,absV,evBin,evConv,evBuiltin,cmpInt,vals,partsOf,isAggD,cellsOf,isAggV,Nat.reduceEqDiff,Nat.reduceLT,Nat.reduceBEq,Nat.reduceBNe,reduceCtorEq,if_true,if_false,reduceIte,forall_const,IntKind.bits,IntKind.signed,eq_self_iff_true,finalOf,resultOf,cellsGood,AC.isCell,senv_mem,lift, bld,spliceAll,allFields,places,splice,Nat.reduceAdd,Nat.reduceSub,Nat.reduceMul,Nat.reduceMod,Nat.reduceLeDiff,List.range,List.range.loop,pfind, ltyA, lenv_mem, none1, hnt, g10, g11, h1]
      refine hQ2 _ _ _ _ (by simp) ?_
      simp +decide -implicitDefEqProofs only [stp,code_seq,evWanted,evOp,val,absV,evBin,evConv,evBuiltin,cmpInt,vals,partsOf,isAggD,cellsOf,isAggV,Nat.reduceEqDiff,Nat.reduceLT,Nat.reduceBEq,Nat.reduceBNe,reduceCtorEq,if_true,if_false,reduceIte,forall_const,IntKind.bits,IntKind.signed,eq_self_iff_true,finalOf,resultOf,cellsGood,AC.isCell,senv_mem,lift, bld,spliceAll,allFields,places,splice,Nat.reduceAdd,Nat.reduceSub,Nat.reduceMul,Nat.reduceMod,Nat.reduceLeDiff,List.range,List.range.loop,pfind, ltyA, lenv_mem, none1, hnt]
      refine hQ0 _ _ _ ⟨by simp only [nt_put, hnt], hl2, ?_⟩
      simp +decide -implicitDefEqProofs only [stp,code_seq,evWanted,evOp,val,absV,evBin,evConv,evBuiltin,cmpInt,vals,partsOf,isAggD,cellsOf,isAggV,Nat.reduceEqDiff,Nat.reduceLT,Nat.reduceBEq,Nat.reduceBNe,reduceCtorEq,if_true,if_false,reduceIte,forall_const,IntKind.bits,IntKind.signed,eq_self_iff_true,finalOf,resultOf,cellsGood,AC.isCell,senv_mem,lift, hnt, g0, g1, g2, g3, g9]
      exact ⟨G, g, rfl, hG.rules hl1 hA2, by rw [hge, List.take_of_length_le (by simp)]; exact gok_of hLn hls5⟩
    · by_cases h1 : (i : Int) < ls.length
      · obtain ⟨r, hr⟩ : ∃ r, ls[i]? = some r := ⟨_, List.getElem?_eq_getElem (by omega)⟩
        obtain ⟨ecs, hc6, hc0, hc2, hex⟩ := isLines_at ls lcs i r hlt hll hr
        have hjn := (hl1 jl _ hgl).1
        have hgl2 : get [d2] jl = some (.cells 38 lcs) := (hA2.keeps jl hjn).trans hgl
        have hi0 : (0 : Int) ≤ (i : Int) := by omega
        have hc0' : lcs[i * 8 + 0]? = some (.str r.nm) := hc0
        have hfit : i * 8 + 2 + 6 ≤ lcs.length := by omega
        have hT6 : List.take 6 ecs = ecs := List.take_of_length_le (by omega)
        have hcg : ecs.all AC.isCell = true := by
          rw [← hc2, List.all_eq_true]
          exact fun y hy => List.all_eq_true.1 hlg y (List.mem_of_mem_drop (List.mem_of_mem_take hy))
        have w1 : ¬ n2 = jl := by omega
        have w2 : ¬ jl = n2 := by omega
        have w3 : (jl == n2) = false := by simpa using w2
        have w4 : ¬ n2 + 1 = jl := by omega
        simp +decide -implicitDefEqProofs only [stp,code_seq,evWanted,evOp,val,absV,evBin,evConv,evBuiltin,cmpInt,vals,partsOf,isAggD,cellsOf,isAggV,Nat.reduceEqDiff,Nat.reduceLT,Nat.reduceBEq,Nat.reduceBNe,reduceCtorEq,if_true,if_false,reduceIte,forall_const,IntKind.bits,IntKind.signed,eq_self_iff_true,finalOf,resultOf,cellsGood,AC.isCell,senv_mem,lift, bld,spliceAll,allFields,places,splice,Nat.reduceAdd,Nat.reduceSub,Nat.reduceMul,Nat.reduceMod,Nat.reduceLeDiff,List.range,List.range.loop,pfind, ltyA, lenv_mem, none1, hnt, g9, g10, g11, h1]
        have hwi : IntKind.i64.wrap ((i : Int) + 1) = ((i + 1 : Nat) : Int) := by rw [wrap_id (by omega) (by omega)]; omega
        have htk : g ++ [toRu r] = (ls.take (i + 1)).map toRu := by
          rw [hge, List.take_add_one, hr, List.map_append]; rfl
        have hgl5 : g.length = i := by rw [hge, List.length_map, List.length_take]; omega
        have hex1 : isEx [d1] r.ex ecs = true := isEx_keep (H := [(jl, none) :: newOnly (n + 1) d1]) (fun j o ho => by
          rw [get_cons] at ho
          split at ho
          · cases ho
          · rw [get_newOnly] at ho
            split at ho
            · exact ho
            · cases ho) hex
        rcases hG with ⟨hg0, rfl⟩ | ⟨jg, gcs, hjg, rfl, hgne, hgg, hgl7, hga, hgt⟩
        · apply code_drawn lenv_ok none1_ok (by decide) _ (by rfl)
          · simp +decide -implicitDefEqProofs only [stp,code_seq,evWanted,evOp,val,absV,evBin,evConv,evBuiltin,cmpInt,vals,partsOf,isAggD,cellsOf,isAggV,Nat.reduceEqDiff,Nat.reduceLT,Nat.reduceBEq,Nat.reduceBNe,reduceCtorEq,if_true,if_false,reduceIte,forall_const,IntKind.bits,IntKind.signed,eq_self_iff_true,finalOf,resultOf,cellsGood,AC.isCell,senv_mem,lift, flat,d_nil,d_cons,d_true,d_false,d_some,d_some1,slotsAt_get,slotsAt_nt,get_mk_cons,get_mk,wrs_nil,wrs_cons,wrs_none,get_heapAt,get_seen_nil,get_seen_cons,get_seen_one,List.cons_append,List.nil_append,Nat.reduceSub,Nat.reduceAdd,Nat.add_one_sub_one,bitOf, bld,spliceAll,allFields,places,splice,Nat.reduceAdd,Nat.reduceSub,Nat.reduceMul,Nat.reduceMod,Nat.reduceLeDiff,List.range,List.range.loop,pfind, ltyA, lenv_mem, none1, hnt, g9, g10, g11, hi0, h1, hgl2, hc0', hc2, hfit, hc6, hT6, hcg, w1, w2, w3, w4, evAppend, Int.toNat_natCast, Bool.or_self]
            rfl
          · simp +decide [laters, laterIds, subAll, subIds]
          simp +decide -implicitDefEqProofs only [stp,code_seq,evWanted,evOp,val,absV,evBin,evConv,evBuiltin,cmpInt,vals,partsOf,isAggD,cellsOf,isAggV,Nat.reduceEqDiff,Nat.reduceLT,Nat.reduceBEq,Nat.reduceBNe,reduceCtorEq,if_true,if_false,reduceIte,forall_const,IntKind.bits,IntKind.signed,eq_self_iff_true,finalOf,resultOf,cellsGood,AC.isCell,senv_mem,lift, flat,d_nil,d_cons,d_true,d_false,d_some,d_some1,slotsAt_get,slotsAt_nt,get_mk_cons,get_mk,wrs_nil,wrs_cons,wrs_none,get_heapAt,get_seen_nil,get_seen_cons,get_seen_one,List.cons_append,List.nil_append,Nat.reduceSub,Nat.reduceAdd,Nat.add_one_sub_one,bitOf, bld,spliceAll,allFields,places,splice,Nat.reduceAdd,Nat.reduceSub,Nat.reduceMul,Nat.reduceMod,Nat.reduceLeDiff,List.range,List.range.loop,pfind, ltyA, lenv_mem, none1, hnt, g9, g10, g11, hwi]
          refine hQ1 (q - 1) _ _ _ (by omega) ⟨by simp only [nt_put, hnt], by omega, (hA2.cons (j := n2) (by omega)).cons (j := n2 + 1) (by omega), ?_⟩
          simp +decide -implicitDefEqProofs only [stp,code_seq,evWanted,evOp,val,absV,evBin,evConv,evBuiltin,cmpInt,vals,partsOf,isAggD,cellsOf,isAggV,Nat.reduceEqDiff,Nat.reduceLT,Nat.reduceBEq,Nat.reduceBNe,reduceCtorEq,if_true,if_false,reduceIte,forall_const,IntKind.bits,IntKind.signed,eq_self_iff_true,finalOf,resultOf,cellsGood,AC.isCell,senv_mem,lift, flat,d_nil,d_cons,d_true,d_false,d_some,d_some1,slotsAt_get,slotsAt_nt,get_mk_cons,get_mk,wrs_nil,wrs_cons,wrs_none,get_heapAt,get_seen_nil,get_seen_cons,get_seen_one,List.cons_append,List.nil_append,Nat.reduceSub,Nat.reduceAdd,Nat.add_one_sub_one,bitOf, hnt, g0, g1, g2, g3, g10]
          refine ⟨i + 1, .sl (n2 + 1) 1, g ++ [toRu r], by omega, rfl, rfl, htk, .inr ⟨n2 + 1, .str r.nm :: ecs, by omega, by rw [hg0]; rfl, by simp, by rw [get_cons, if_pos rfl], by rw [hg0]; simp [hc6], by rw [List.all_cons, hcg]; rfl, ?_⟩⟩
          rw [hg0]
          exact isRus_snoc (r := toRu r) hc6 hex1 [] [] rfl rfl
        · have v1 : ¬ n2 = jg := by have := (hl2 jg _ hgg).1; omega
          have v2 : (jg == n2) = false := by simpa using fun e => v1 e.symm
          have v3 : ¬ g.length > 100000 := by omega
          apply code_drawn lenv_ok none1_ok (by decide) _ (by rfl)
          · simp +decide -implicitDefEqProofs only [stp,code_seq,evWanted,evOp,val,absV,evBin,evConv,evBuiltin,cmpInt,vals,partsOf,isAggD,cellsOf,isAggV,Nat.reduceEqDiff,Nat.reduceLT,Nat.reduceBEq,Nat.reduceBNe,reduceCtorEq,if_true,if_false,reduceIte,forall_const,IntKind.bits,IntKind.signed,eq_self_iff_true,finalOf,resultOf,cellsGood,AC.isCell,senv_mem,lift, flat,d_nil,d_cons,d_true,d_false,d_some,d_some1,slotsAt_get,slotsAt_nt,get_mk_cons,get_mk,wrs_nil,wrs_cons,wrs_none,get_heapAt,get_seen_nil,get_seen_cons,get_seen_one,List.cons_append,List.nil_append,Nat.reduceSub,Nat.reduceAdd,Nat.add_one_sub_one,bitOf, bld,spliceAll,allFields,places,splice,Nat.reduceAdd,Nat.reduceSub,Nat.reduceMul,Nat.reduceMod,Nat.reduceLeDiff,List.range,List.range.loop,pfind, ltyA, lenv_mem, none1, hnt, g9, g10, g11, hi0, h1, hgl2, hc0', hc2, hfit, hc6, hT6, hcg, w1, w2, w3, w4, v1, v2, v3, hgg, hga, hgl7, evAppend, Int.toNat_natCast, Bool.or_self]
            rfl
          · simp +decide [laters, laterIds, subAll, subIds]
          simp +decide -implicitDefEqProofs only [stp,code_seq,evWanted,evOp,val,absV,evBin,evConv,evBuiltin,cmpInt,vals,partsOf,isAggD,cellsOf,isAggV,Nat.reduceEqDiff,Nat.reduceLT,Nat.reduceBEq,Nat.reduceBNe,reduceCtorEq,if_true,if_false,reduceIte,forall_const,IntKind.bits,IntKind.signed,eq_self_iff_true,finalOf,resultOf,cellsGood,AC.isCell,senv_mem,lift, flat,d_nil,d_cons,d_true,d_false,d_some,d_some1,slotsAt_get,slotsAt_nt,get_mk_cons,get_mk,wrs_nil,wrs_cons,wrs_none,get_heapAt,get_seen_nil,get_seen_cons,get_seen_one,List.cons_append,List.nil_append,Nat.reduceSub,Nat.reduceAdd,Nat.add_one_sub_one,bitOf, bld,spliceAll,allFields,places,splice,Nat.reduceAdd,Nat.reduceSub,Nat.reduceMul,Nat.reduceMod,Nat.reduceLeDiff,List.range,List.range.loop,pfind, ltyA, lenv_mem, none1, hnt, g9, g10, g11, hwi]
          refine hQ1 (q - 1) _ _ _ (by omega) ⟨by simp only [nt_put, hnt], by omega, ((hA2.cons (j := n2) (by omega)).cons (j := jg) (by omega)).cons (j := n2 + 1) (by omega), ?_⟩
          simp +decide -implicitDefEqProofs only [stp,code_seq,evWanted,evOp,val,absV,evBin,evConv,evBuiltin,cmpInt,vals,partsOf,isAggD,cellsOf,isAggV,Nat.reduceEqDiff,Nat.reduceLT,Nat.reduceBEq,Nat.reduceBNe,reduceCtorEq,if_true,if_false,reduceIte,forall_const,IntKind.bits,IntKind.signed,eq_self_iff_true,finalOf,resultOf,cellsGood,AC.isCell,senv_mem,lift, flat,d_nil,d_cons,d_true,d_false,d_some,d_some1,slotsAt_get,slotsAt_nt,get_mk_cons,get_mk,wrs_nil,wrs_cons,wrs_none,get_heapAt,get_seen_nil,get_seen_cons,get_seen_one,List.cons_append,List.nil_append,Nat.reduceSub,Nat.reduceAdd,Nat.add_one_sub_one,bitOf, hnt, g0, g1, g2, g3, g10]
          exact ⟨i + 1, .sl (n2 + 1) (g.length + 1), g ++ [toRu r], by omega, rfl, rfl, htk, .inr ⟨n2 + 1, gcs ++ .str r.nm :: ecs, by omega, by simp, by simp, by rw [get_cons, if_pos rfl], by simp [hc6, hgl7]; omega, by rw [List.all_append, hga, List.all_cons, hcg]; rfl, isRus_snoc (r := toRu r) hc6 hex1 g gcs hgl7 hgt⟩⟩
      · simp +decide -implicitDefEqProofs only [stp,code_seq,evWanted,evOp,val,absV,evBin,evConv,evBuiltin,cmpInt,vals,partsOf,isAggD,cellsOf,isAggV,Nat.reduceEqDiff,Nat.reduceLT,Nat.reduceBEq,Nat.reduceBNe,reduceCtorEq,if_true,if_false,reduceIte,forall_const,IntKind.bits,IntKind.signed,eq_self_iff_true,finalOf,resultOf,cellsGood,AC.isCell,senv_mem,lift, bld,spliceAll,allFields,places,splice,Nat.reduceAdd,Nat.reduceSub,Nat.reduceMul,Nat.reduceMod,Nat.reduceLeDiff,List.range,List.range.loop,pfind, ltyA, lenv_mem, none1, hnt, g10, g11, h1]
        refine hQ2 _ _ _ _ (by simp) ?_
        simp +decide -implicitDefEqProofs only [stp,code_seq,evWanted,evOp,val,absV,evBin,evConv,evBuiltin,cmpInt,vals,partsOf,isAggD,cellsOf,isAggV,Nat.reduceEqDiff,Nat.reduceLT,Nat.reduceBEq,Nat.reduceBNe,reduceCtorEq,if_true,if_false,reduceIte,forall_const,IntKind.bits,IntKind.signed,eq_self_iff_true,finalOf,resultOf,cellsGood,AC.isCell,senv_mem,lift, bld,spliceAll,allFields,places,splice,Nat.reduceAdd,Nat.reduceSub,Nat.reduceMul,Nat.reduceMod,Nat.reduceLeDiff,List.range,List.range.loop,pfind, ltyA, lenv_mem, none1, hnt]
        refine hQ0 _ _ _ ⟨by simp only [nt_put, hnt], hl2, ?_⟩
        simp +decide -implicitDefEqProofs only [stp,code_seq,evWanted,evOp,val,absV,evBin,evConv,evBuiltin,cmpInt,vals,partsOf,isAggD,cellsOf,isAggV,Nat.reduceEqDiff,Nat.reduceLT,Nat.reduceBEq,Nat.reduceBNe,reduceCtorEq,if_true,if_false,reduceIte,forall_const,IntKind.bits,IntKind.signed,eq_self_iff_true,finalOf,resultOf,cellsGood,AC.isCell,senv_mem,lift, hnt, g0, g1, g2, g3, g9]
        exact ⟨G, g, rfl, hG.rules hl1 hA2, by rw [hge, List.take_of_length_le (by omega)]; exact gok_of hLn hls5⟩

  rintro S d2 n2 ⟨hnt, hl2, g0, g1, g2, g3, G, g, g9, hG, hgok⟩
  rw [code_seq]
  refine code_cutR (fun sl d' n' => sl.nt = 49 ∧ Live d' n' ∧ (∃ t, sl.get 1 = .c (.str t)) ∧ sl.get 2 = .c (.bool utf) ∧ sl.get 9 = .c G ∧ isRules [d'] G g = true) ?_ ?_
  · intro Q0 hQ0
    cases small
    · simp +decide -implicitDefEqProofs only [stp,code_seq,evWanted,evOp,val,absV,evBin,evConv,evBuiltin,cmpInt,vals,partsOf,isAggD,cellsOf,isAggV,Nat.reduceEqDiff,Nat.reduceLT,Nat.reduceBEq,Nat.reduceBNe,reduceCtorEq,if_true,if_false,reduceIte,forall_const,IntKind.bits,IntKind.signed,eq_self_iff_true,finalOf,resultOf,cellsGood,AC.isCell,senv_mem,lift, bld,spliceAll,allFields,places,splice,Nat.reduceAdd,Nat.reduceSub,Nat.reduceMul,Nat.reduceMod,Nat.reduceLeDiff,List.range,List.range.loop,pfind, ltyA, lenv_mem, none1, hnt, g3]
      refine hQ0 _ _ _ ⟨by simp only [nt_put, hnt], hl2, ?_⟩
      simp +decide -implicitDefEqProofs only [stp,code_seq,evWanted,evOp,val,absV,evBin,evConv,evBuiltin,cmpInt,vals,partsOf,isAggD,cellsOf,isAggV,Nat.reduceEqDiff,Nat.reduceLT,Nat.reduceBEq,Nat.reduceBNe,reduceCtorEq,if_true,if_false,reduceIte,forall_const,IntKind.bits,IntKind.signed,eq_self_iff_true,finalOf,resultOf,cellsGood,AC.isCell,senv_mem,lift, hnt, g1, g2, g9]
      exact ⟨⟨_, rfl⟩, hG⟩
    · simp +decide -implicitDefEqProofs only [stp,code_seq,evWanted,evOp,val,absV,evBin,evConv,evBuiltin,cmpInt,vals,partsOf,isAggD,cellsOf,isAggV,Nat.reduceEqDiff,Nat.reduceLT,Nat.reduceBEq,Nat.reduceBNe,reduceCtorEq,if_true,if_false,reduceIte,forall_const,IntKind.bits,IntKind.signed,eq_self_iff_true,finalOf,resultOf,cellsGood,AC.isCell,senv_mem,lift, bld,spliceAll,allFields,places,splice,Nat.reduceAdd,Nat.reduceSub,Nat.reduceMul,Nat.reduceMod,Nat.reduceLeDiff,List.range,List.range.loop,pfind, ltyA, lenv_mem, none1, hnt, g3, g0]
      refine call_mono (letters_ok hx d2 n2) fun v d3 n3 hR hl3 hle3 hok3 => ?_
      obtain ⟨hk3, t, ht, rfl⟩ := hR
      simp +decide -implicitDefEqProofs only [stp,code_seq,evWanted,evOp,val,absV,evBin,evConv,evBuiltin,cmpInt,vals,partsOf,isAggD,cellsOf,isAggV,Nat.reduceEqDiff,Nat.reduceLT,Nat.reduceBEq,Nat.reduceBNe,reduceCtorEq,if_true,if_false,reduceIte,forall_const,IntKind.bits,IntKind.signed,eq_self_iff_true,finalOf,resultOf,cellsGood,AC.isCell,senv_mem,lift, bld,spliceAll,allFields,places,splice,Nat.reduceAdd,Nat.reduceSub,Nat.reduceMul,Nat.reduceMod,Nat.reduceLeDiff,List.range,List.range.loop,pfind, ltyA, lenv_mem, none1, hnt]
      refine hQ0 _ _ _ ⟨by simp only [nt_put, hnt], hl3, ?_⟩
      simp +decide -implicitDefEqProofs only [stp,code_seq,evWanted,evOp,val,absV,evBin,evConv,evBuiltin,cmpInt,vals,partsOf,isAggD,cellsOf,isAggV,Nat.reduceEqDiff,Nat.reduceLT,Nat.reduceBEq,Nat.reduceBNe,reduceCtorEq,if_true,if_false,reduceIte,forall_const,IntKind.bits,IntKind.signed,eq_self_iff_true,finalOf,resultOf,cellsGood,AC.isCell,senv_mem,lift, hnt, g1, g2, g9]
      exact ⟨⟨_, rfl⟩, isRules_keep hl2 hk3 hG⟩
  clear hnt g0 g1 g2 g3 g9 hG hl2
  rintro S d3 n3 ⟨hnt, hl3, ⟨t, g1⟩, g2, g9, hG⟩
  rw [code_seq]
  refine code_cutR (fun sl d' n' => sl.nt = 49 ∧ d' = d3 ∧ n' = n3 ∧ (∃ t, t.length ≤ 6 ∧ sl.get 1 = .c (.str t)) ∧ sl.get 2 = .c (.bool utf) ∧ sl.get 9 = .c G) ?_ ?_
  · intro Q0 hQ0
    by_cases h6 : (t.length : Int) > 6
    · have h66 : (6 : Int) ≤ t.length := by omega
      have t6 : Int.toNat 6 = 6 := rfl
      simp +decide -implicitDefEqProofs only [stp,code_seq,evWanted,evOp,val,absV,evBin,evConv,evBuiltin,cmpInt,vals,partsOf,isAggD,cellsOf,isAggV,Nat.reduceEqDiff,Nat.reduceLT,Nat.reduceBEq,Nat.reduceBNe,reduceCtorEq,if_true,if_false,reduceIte,forall_const,IntKind.bits,IntKind.signed,eq_self_iff_true,finalOf,resultOf,cellsGood,AC.isCell,senv_mem,lift, bld,spliceAll,allFields,places,splice,Nat.reduceAdd,Nat.reduceSub,Nat.reduceMul,Nat.reduceMod,Nat.reduceLeDiff,List.range,List.range.loop,pfind, ltyA, lenv_mem, none1, hnt, g1, h6, h66, t6]
      refine hQ0 _ _ _ ⟨by simp only [nt_put, hnt], rfl, rfl, ?_⟩
      simp +decide -implicitDefEqProofs only [stp,code_seq,evWanted,evOp,val,absV,evBin,evConv,evBuiltin,cmpInt,vals,partsOf,isAggD,cellsOf,isAggV,Nat.reduceEqDiff,Nat.reduceLT,Nat.reduceBEq,Nat.reduceBNe,reduceCtorEq,if_true,if_false,reduceIte,forall_const,IntKind.bits,IntKind.signed,eq_self_iff_true,finalOf,resultOf,cellsGood,AC.isCell,senv_mem,lift, hnt, g2, g9]
      exact ⟨_, by rw [List.length_take]; omega, rfl⟩
    · simp +decide -implicitDefEqProofs only [stp,code_seq,evWanted,evOp,val,absV,evBin,evConv,evBuiltin,cmpInt,vals,partsOf,isAggD,cellsOf,isAggV,Nat.reduceEqDiff,Nat.reduceLT,Nat.reduceBEq,Nat.reduceBNe,reduceCtorEq,if_true,if_false,reduceIte,forall_const,IntKind.bits,IntKind.signed,eq_self_iff_true,finalOf,resultOf,cellsGood,AC.isCell,senv_mem,lift, bld,spliceAll,allFields,places,splice,Nat.reduceAdd,Nat.reduceSub,Nat.reduceMul,Nat.reduceMod,Nat.reduceLeDiff,List.range,List.range.loop,pfind, ltyA, lenv_mem, none1, hnt, g1, h6]
      refine hQ0 _ _ _ ⟨by simp only [nt_put, hnt], rfl, rfl, ?_⟩
      simp +decide -implicitDefEqProofs only [stp,code_seq,evWanted,evOp,val,absV,evBin,evConv,evBuiltin,cmpInt,vals,partsOf,isAggD,cellsOf,isAggV,Nat.reduceEqDiff,Nat.reduceLT,Nat.reduceBEq,Nat.reduceBNe,reduceCtorEq,if_true,if_false,reduceIte,forall_const,IntKind.bits,IntKind.signed,eq_self_iff_true,finalOf,resultOf,cellsGood,AC.isCell,senv_mem,lift, hnt, g1, g2, g9]
      exact ⟨_, by omega, rfl⟩
  clear hnt g1 g2 g9
  rintro S d3 n3 ⟨hnt, rfl, rfl, ⟨t, ht, g1⟩, g2, g9⟩
  simp +decide -implicitDefEqProofs only [stp,code_seq,evWanted,evOp,val,absV,evBin,evConv,evBuiltin,cmpInt,vals,partsOf,isAggD,cellsOf,isAggV,Nat.reduceEqDiff,Nat.reduceLT,Nat.reduceBEq,Nat.reduceBNe,reduceCtorEq,if_true,if_false,reduceIte,forall_const,IntKind.bits,IntKind.signed,eq_self_iff_true,finalOf,resultOf,cellsGood,AC.isCell,senv_mem,lift, bld,spliceAll,allFields,places,splice,Nat.reduceAdd,Nat.reduceSub,Nat.reduceMul,Nat.reduceMod,Nat.reduceLeDiff,List.range,List.range.loop,pfind, ltyA, lenv_mem, none1, hnt, g1, g2, g9]
  refine call_mono (awake_ok d3 n3) fun v d4 n4 hR hl4 hle4 hok4 => ?_
  obtain ⟨rfl, hk4⟩ := hR
  have hr4 := isRules_keep hl3 hk4 hG
  simp +decide -implicitDefEqProofs only [stp,code_seq,evWanted,evOp,val,absV,evBin,evConv,evBuiltin,cmpInt,vals,partsOf,isAggD,cellsOf,isAggV,Nat.reduceEqDiff,Nat.reduceLT,Nat.reduceBEq,Nat.reduceBNe,reduceCtorEq,if_true,if_false,reduceIte,forall_const,IntKind.bits,IntKind.signed,eq_self_iff_true,finalOf,resultOf,cellsGood,AC.isCell,senv_mem,lift, bld,spliceAll,allFields,places,splice,Nat.reduceAdd,Nat.reduceSub,Nat.reduceMul,Nat.reduceMod,Nat.reduceLeDiff,List.range,List.range.loop,pfind, ltyA, lenv_mem, none1, hnt, g1, g2, g9]
  have hgl := hgok.1
  refine call_mono (l_fine (NM := NMs) hr4 (by omega) (fun r hr => (hgok.2 r hr).1) (fun r hr => (hgok.2 r hr).2.1) (by decide) (ruleOf_none fun r hr => (hgok.2 r hr).2.2) (by omega) (by decide)) fun v d5 n5 hR hl5 hle5 hok5 => ?_
  subst hR
  simp +decide -implicitDefEqProofs only [stp,code_seq,evWanted,evOp,val,absV,evBin,evConv,evBuiltin,cmpInt,vals,partsOf,isAggD,cellsOf,isAggV,Nat.reduceEqDiff,Nat.reduceLT,Nat.reduceBEq,Nat.reduceBNe,reduceCtorEq,if_true,if_false,reduceIte,forall_const,IntKind.bits,IntKind.signed,eq_self_iff_true,finalOf,resultOf,cellsGood,AC.isCell,senv_mem,lift, bld,spliceAll,allFields,places,splice,Nat.reduceAdd,Nat.reduceSub,Nat.reduceMul,Nat.reduceMod,Nat.reduceLeDiff,List.range,List.range.loop,pfind, ltyA, lenv_mem, none1, hnt]
  refine hQ _ _ _ _ (.c (.bool true)) (by simp) ?_ rfl
  simp +decide -implicitDefEqProofs only [stp,code_seq,evWanted,evOp,val,absV,evBin,evConv,evBuiltin,cmpInt,vals,partsOf,isAggD,cellsOf,isAggV,Nat.reduceEqDiff,Nat.reduceLT,Nat.reduceBEq,Nat.reduceBNe,reduceCtorEq,if_true,if_false,reduceIte,forall_const,IntKind.bits,IntKind.signed,eq_self_iff_true,finalOf,resultOf,cellsGood,AC.isCell,senv_mem,lift, Tryz.f4, hnt]

theorem senseMade_calls {v0 : Value} {s : List UInt8} {utf small : Bool} {l : List UInt8} {w : World} (hx : BytesIn (memOf w) (lift v0) l) :
    Calls Tryz.prog 4 #[v0, .string ⟨s.toArray⟩, .bool utf, .bool small] w fun e w' => e = .returned (.bool true) ∧ Below w.heap.size w w' := by
  have h := calls_of_abs (E := lenv (memOf w)) (w := w) (fun b o v hv => memOf_ok hv) (by
    intro x hx
    simp only [List.mem_cons, List.not_mem_nil, or_false] at hx
    rcases hx with rfl | rfl | rfl | rfl
    · exact ok_lift _ v0
    · trivial
    · trivial
    · trivial) (senseMade_abs (B0 := w.heap.size) (lift v0) l hx s utf small [] 0)
  have e : (List.map (concV fun _ => (0, 0)) [AV.c (lift v0), AV.c (.str s), AV.c (.bool utf), AV.c (.bool small)]).toArray = #[v0, .string ⟨s.toArray⟩, .bool utf, .bool small] := by
    simp only [List.map_cons, List.map_nil, lift_conc]
    rfl
  rw [e] at h
  refine h.mono ?_
  rintro e w' ⟨v, d, n, al, ρ, rfl, hrep, hb, hok, rfl⟩
  exact ⟨rfl, hb⟩

end Go.Proofs.YtdpielghjaehbaaGreat.Ev
