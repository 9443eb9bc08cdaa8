/- regletref06: the ends of an expression without others in it. -/
import Derived.Test.YtdpielghjaehbaaGreatRd
set_option linter.unusedSectionVars false
set_option linter.unusedSimpArgs false
set_option linter.unusedVariables false
namespace Go.Proofs.YtdpielghjaehbaaGreat.Ev
open Go.RowKit

variable {mem : Nat → Nat → Option Value} {B0 : Nat}

/-- These marks stand at these places. -/
def Is (L : Nat) (bs : List Bool) (S : Nat → Prop) : Prop := bs.length = L + 1 ∧ ∀ x, bs[x]? = some true ↔ S x

theorem Is.congr {L : Nat} {bs : List Bool} {S T : Nat → Prop} (h : Is L bs S) (e : ∀ x, S x ↔ T x) : Is L bs T := ⟨h.1, fun x => (h.2 x).trans (e x)⟩

theorem is_rep {L : Nat} {S : Nat → Prop} (h : ∀ x, ¬ S x) : Is L (List.replicate (L + 1) false) S := by
  refine ⟨by simp, fun x => ⟨fun hx => ?_, fun hx => absurd hx (h x)⟩⟩
  rw [List.getElem?_replicate] at hx
  split at hx <;> simp at hx

theorem is_put {L k : Nat} {bs : List Bool} {b : Bool} {S : Nat → Prop} (h : Is L bs S) (hk : k ≤ L) : Is L (bs.set k b) (fun y => (y = k ∧ b = true) ∨ (y ≠ k ∧ S y)) := by
  refine ⟨by simp [h.1], fun x => ?_⟩
  rw [List.getElem?_set]
  by_cases hx : k = x
  · subst hx
    rw [if_pos rfl, if_pos (by rw [h.1]; omega)]
    simp
  · rw [if_neg hx, h.2]
    constructor
    · intro hs; exact .inr ⟨fun e => hx e.symm, hs⟩
    · rintro (⟨e, _⟩ | ⟨_, hs⟩)
      · exact absurd e.symm hx
      · exact hs

theorem rep_mks (k : Nat) : List.replicate k (AC.bool false) = mksC (List.replicate k false) := by simp [mksC]

theorem memCells_l {b : Nat} : ∀ (k o : Nat), memCells (lenv mem) b o k = memCells (senv mem) b o k
  | 0, _ => rfl
  | k + 1, o => by
    unfold memCells
    rw [memCells_l k (o + 1)]
    rfl

/-- A call made such marks. -/
def Made (n L : Nat) (S : Nat → Prop) (d : Seg) (v : AV) (d' : Seg) : Prop := ∃ j bs, n ≤ j ∧ v = .c (.sl j (L + 1)) ∧ Adds n d d' ∧ get [d'] j = some (.cells 4 (mksC bs)) ∧ Is L bs S

theorem pre_append {u r l : List UInt8} : u ++ r <+: l ↔ u <+: l ∧ r <+: l.drop u.length := by
  constructor
  · rintro ⟨t, rfl⟩
    refine ⟨⟨r ++ t, by simp⟩, ⟨t, by simp⟩⟩
  · rintro ⟨⟨t, rfl⟩, h⟩
    rw [List.drop_left] at h
    exact (List.prefix_append_right_inj u).2 h

set_option maxRecDepth 20000 in
set_option maxHeartbeats 4000000 in
theorem leaf5_ok {w0 : World} {Bx : Nat} {d : Seg} {n ix a : Nat} {G TT : AC} {s : List UInt8} {utf : Bool} {M : Kn} {NM : List (List UInt8)} {text : List UInt8} {nums : List Int} {least most : Int} {kids : List Ex} {cs : List Value}
    (hx1 : SR d ix G s utf TT) (hcs : ExAt w0 Bx (.mk 5 text nums least most kids) cs) (hwf : wfEx NM (.mk 5 text nums least most kids) = true) (ha : a ≤ s.length) (hs0 : s.length < 1000) :
    CallsA Tryz.prog (lenv (memOf w0)) B0 69 [.c (.ptr ix 0), .agg (cs.map lift), .c (.int .i64 a)] d n fun v d' n' => Made n s.length (den s utf M (.mk 5 text nums least most kids) a) d v d' := by
  refine callsA_code lenv_ok none1_ok Tryz.func69 rfl (by decide) rfl rfl (by simp) fun hl _ Q hQ => ?_
  simp only [wfEx, Bool.and_eq_true, decide_eq_true_eq] at hwf
  obtain ⟨⟨⟨⟨⟨⟨⟨⟨hw3, hw4⟩, hw7⟩, hnl⟩, htl⟩, hkl⟩, hw8⟩, hw9⟩, hwk⟩ := hwf
  obtain ⟨L, N0, K0, rfl, hx⟩ := six_of hcs
  obtain ⟨L, hLe⟩ : ∃ L, cs.map lift = L := ⟨_, rfl⟩
  rw [hLe] at hx ⊢
  obtain ⟨h6, hg, c0, c1, c2, c3, c4, c5, hT, hK, hN⟩ := hx
  have hixn := (hl ix _ hx1).1
  unfold SR at hx1
  have e1 : ¬ n = ix := by omega
  have e2 : ¬ n + 1 = ix := by omega
  have e3 : ¬ n + 1 = n := by omega
  have hw1 : IntKind.i64.wrap ((s.length : Int) + 1) = ((s.length + 1 : Nat) : Int) := wrap_succ (by omega)
  have hp0 : (0 : Int) ≤ ((s.length + 1 : Nat) : Int) := by omega
  have hp1 : ((s.length + 1 : Nat) : Int) ≤ 100000 := by omega
  have hadd : IntKind.i64.wrap ((a : Int) + (text.length : Int)) = ((a + text.length : Nat) : Int) := by rw [wrap_id (by omega) (by omega)]; rfl
  simp +decide -implicitDefEqProofs only [stp,code_seq,evWanted,evOp,val,absV,evBin,evConv,evBuiltin,cmpInt,vals,partsOf,isAggD,cellsOf,isAggV,Nat.reduceEqDiff,Nat.reduceLT,Nat.reduceBEq,Nat.reduceBNe,reduceCtorEq,if_true,if_false,reduceIte,forall_const,IntKind.bits,IntKind.signed,eq_self_iff_true,finalOf,resultOf,cellsGood,AC.isCell,senv_mem,lift, Tryz.f69, lty3,lty4,lty5,lty9,lty22,lty33,lty25,lty34,lty23,lty36,lty40,lty98,lty96,lty93,lty95,lty54,lty38,lty31, lenv_mem, none1, h6, hg, c0, c1, hx1, e1, e2, e3, hw1, hp0, hp1, Int.toNat_natCast, rep_mks, hadd]
  obtain ⟨D, hD⟩ : ∃ D, (n + 1, some (AObj.cells 4 (mksC (List.replicate (s.length + 1) false)))) :: (n, some (AObj.cells 36 L)) :: d = D := ⟨_, rfl⟩
  have hAD : Adds n d D := by rw [← hD]; exact ((Adds.refl n d).cons (Nat.le_refl _)).cons (by omega)
  have hxD : get [D] ix = some (.cells 95 [G, .str s, .bool utf, TT]) := by rw [← hD, get_cons, if_neg e2, get_cons, if_neg e1]; exact hx1
  have hED : get [D] n = some (.cells 36 L) := by rw [← hD, get_cons, if_neg e3, get_cons, if_pos rfl]
  have hMD : get [D] (n + 1) = some (.cells 4 (mksC (List.replicate (s.length + 1) false))) := by rw [← hD, get_cons, if_pos rfl]
  rw [hD]
  obtain ⟨X, hX⟩ : ∃ X, (s.take (a + text.length)).drop a = X := ⟨_, rfl⟩
  refine code_loop lenv_ok none1_ok (fun q sl d' n' => sl.nt = 172 ∧ d' = D ∧ n' = n + 2 ∧ ∃ (i : Nat) (okb : Bool), i + q = text.length ∧ sl.get 0 = .c (.ptr ix 0) ∧ sl.get 2 = .c (.int .i64 a) ∧ sl.get 4 = .c (.ptr n 0) ∧ sl.get 7 = .c (.sl (n + 1) (s.length + 1)) ∧ sl.get 8 = .c (.int .i64 text.length) ∧
    sl.get 9 = .c (.bool okb) ∧ sl.get 10 = .c (.int .i64 i) ∧ (okb = true → a + text.length ≤ s.length) ∧ ((a + text.length ≤ s.length ∧ alikeB X text = true) ↔ (okb = true ∧ alikeB (X.drop i) (text.drop i) = true))) text.length ?_ ?_
  · refine ⟨by simp only [nt_put], rfl, rfl, 0, decide (((a + text.length : Nat) : Int) ≤ s.length), by omega, ?_⟩
    simp +decide -implicitDefEqProofs only [stp,code_seq,evWanted,evOp,val,absV,evBin,evConv,evBuiltin,cmpInt,vals,partsOf,isAggD,cellsOf,isAggV,Nat.reduceEqDiff,Nat.reduceLT,Nat.reduceBEq,Nat.reduceBNe,reduceCtorEq,if_true,if_false,reduceIte,forall_const,IntKind.bits,IntKind.signed,eq_self_iff_true,finalOf,resultOf,cellsGood,AC.isCell,senv_mem,lift]
    refine ⟨rfl, fun h => ?_, ?_⟩
    · have := of_decide_eq_true h; omega
    · rw [decide_eq_true_eq, List.drop_zero, List.drop_zero]
      constructor
      · rintro ⟨h1, h2⟩; exact ⟨by omega, h2⟩
      · rintro ⟨h1, h2⟩; exact ⟨by omega, h2⟩
  rintro q sl _ _ ⟨hnt, rfl, rfl, i, okb, hiq, g0, g2, g4, g7, g8, g9, g10, hob, hal⟩ hl2 hs2 Q' hQ1 hQ2
  have hfin : i = text.length ∨ okb = false → ∃ Q0 : Prop, True := fun _ => ⟨True, trivial⟩
  by_cases h2 : (i : Int) < text.length
  · cases okb with
    | true =>
      have hat := hob rfl
      have hil : i < text.length := by omega
      have hXl : X.length = text.length := by rw [← hX, List.length_drop, List.length_take]; omega
      obtain ⟨t, ht⟩ : ∃ t, text[i]? = some t := ⟨_, List.getElem?_eq_getElem hil⟩
      obtain ⟨c, hc⟩ : ∃ c, s[a + i]? = some c := ⟨_, List.getElem?_eq_getElem (by omega)⟩
      have hXi : X[i]? = some c := by rw [← hX, List.getElem?_drop, List.getElem?_take_of_lt (by omega)]; exact hc
      have hw2 : IntKind.i64.wrap ((a : Int) + (i : Int)) = ((a + i : Nat) : Int) := by rw [wrap_id (by omega) (by omega)]; rfl
      have hi0 : (0 : Int) ≤ (i : Int) := by omega
      have hai0 : (0 : Int) ≤ ((a + i : Nat) : Int) := by omega
      have hcb := byte_cast c
      have htb := byte_cast t
      have hdr := alike_drop hXl i (by omega)
      have hx3 : X[i]'(by omega) = c := by
        rw [List.getElem?_eq_getElem (by omega)] at hXi
        simpa using hXi
      have ht3 : text[i] = t := by
        rw [List.getElem?_eq_getElem (by omega)] at ht
        simpa using ht
      rw [hx3, ht3] at hdr
      simp +decide -implicitDefEqProofs only [stp,code_seq,evWanted,evOp,val,absV,evBin,evConv,evBuiltin,cmpInt,vals,partsOf,isAggD,cellsOf,isAggV,Nat.reduceEqDiff,Nat.reduceLT,Nat.reduceBEq,Nat.reduceBNe,reduceCtorEq,if_true,if_false,reduceIte,forall_const,IntKind.bits,IntKind.signed,eq_self_iff_true,finalOf,resultOf,cellsGood,AC.isCell,senv_mem,lift, lty3,lty4,lty5,lty9,lty22,lty33,lty25,lty34,lty23,lty36,lty40,lty98,lty96,lty93,lty95,lty54,lty38,lty31, lenv_mem, none1, hnt, g0, g2, g4, g7, g8, g9, g10, h2]
      apply code_drawn2 lenv_ok callW_ok (by decide) _ (by rfl)
      · simp +decide -implicitDefEqProofs only [stp,code_seq,evWanted,evOp,val,absV,evBin,evConv,evBuiltin,cmpInt,vals,partsOf,isAggD,cellsOf,isAggV,Nat.reduceEqDiff,Nat.reduceLT,Nat.reduceBEq,Nat.reduceBNe,reduceCtorEq,if_true,if_false,reduceIte,forall_const,IntKind.bits,IntKind.signed,eq_self_iff_true,finalOf,resultOf,cellsGood,AC.isCell,senv_mem,lift, flat,d_nil,d_cons,d_true,d_false,d_some,d_some1,slotsAt_get,slotsAt_nt,get_mk_cons,get_mk,wrs_nil,wrs_cons,wrs_none,get_heapAt,get_seen_nil,get_seen_cons,get_seen_one,List.cons_append,List.nil_append,Nat.reduceSub,Nat.reduceAdd,Nat.add_one_sub_one,bitOf, lty3,lty4,lty5,lty9,lty22,lty33,lty25,lty34,lty23,lty36,lty40,lty98,lty96,lty93,lty95,lty54,lty38,lty31, lenv_mem, callW, hnt, g0, g2, g4, g7, g8, g9, g10, hxD, hED, h6, hg, c1, hw2, hai0, hi0, hc, ht, hcb, htb, Int.toNat_natCast]
        rfl
      · rfl
      · simp +decide -implicitDefEqProofs only [stp,code_seq,evWanted,evOp,val,absV,evBin,evConv,evBuiltin,cmpInt,vals,partsOf,isAggD,cellsOf,isAggV,Nat.reduceEqDiff,Nat.reduceLT,Nat.reduceBEq,Nat.reduceBNe,reduceCtorEq,if_true,if_false,reduceIte,forall_const,IntKind.bits,IntKind.signed,eq_self_iff_true,finalOf,resultOf,cellsGood,AC.isCell,senv_mem,lift, flat,d_nil,d_cons,d_true,d_false,d_some,d_some1,slotsAt_get,slotsAt_nt,get_mk_cons,get_mk,wrs_nil,wrs_cons,wrs_none,get_heapAt,get_seen_nil,get_seen_cons,get_seen_one,List.cons_append,List.nil_append,Nat.reduceSub,Nat.reduceAdd,Nat.add_one_sub_one,bitOf, lty3,lty4,lty5,lty9,lty22,lty33,lty25,lty34,lty23,lty36,lty40,lty98,lty96,lty93,lty95,lty54,lty38,lty31, lenv_mem, none1, hnt, g0, g2, g4, g7, g8, g9, g10]
        refine hQ1 (q - 1) _ _ _ (by omega) ⟨by first | rfl | simp only [nt_put, hnt], rfl, rfl, i + 1, (smallI (c.toNat : Int) == smallI (t.toNat : Int)), by omega, ?_⟩
        simp +decide -implicitDefEqProofs only [stp,code_seq,evWanted,evOp,val,absV,evBin,evConv,evBuiltin,cmpInt,vals,partsOf,isAggD,cellsOf,isAggV,Nat.reduceEqDiff,Nat.reduceLT,Nat.reduceBEq,Nat.reduceBNe,reduceCtorEq,if_true,if_false,reduceIte,forall_const,IntKind.bits,IntKind.signed,eq_self_iff_true,finalOf,resultOf,cellsGood,AC.isCell,senv_mem,lift, flat,d_nil,d_cons,d_true,d_false,d_some,d_some1,slotsAt_get,slotsAt_nt,get_mk_cons,get_mk,wrs_nil,wrs_cons,wrs_none,get_heapAt,get_seen_nil,get_seen_cons,get_seen_one,List.cons_append,List.nil_append,Nat.reduceSub,Nat.reduceAdd,Nat.add_one_sub_one,bitOf, hnt, g0, g2, g4, g7, g8]
        rw [wrap_succ (by omega)]
        refine ⟨rfl, fun _ => hat, hal.trans ?_⟩
        rw [hdr, Bool.and_eq_true]
        simp
    | false =>
      have hIs : Is s.length (List.replicate (s.length + 1) false) (den s utf M (.mk 5 text nums least most kids) a) := is_rep fun x hx => by
        rw [den_fold] at hx
        obtain ⟨rfl, hx2, hx3⟩ := hx
        rw [hX] at hx3
        have := (hal.1 ⟨hx2, hx3⟩).1
        cases this
      simp +decide -implicitDefEqProofs only [stp,code_seq,evWanted,evOp,val,absV,evBin,evConv,evBuiltin,cmpInt,vals,partsOf,isAggD,cellsOf,isAggV,Nat.reduceEqDiff,Nat.reduceLT,Nat.reduceBEq,Nat.reduceBNe,reduceCtorEq,if_true,if_false,reduceIte,forall_const,IntKind.bits,IntKind.signed,eq_self_iff_true,finalOf,resultOf,cellsGood,AC.isCell,senv_mem,lift, lty3,lty4,lty5,lty9,lty22,lty33,lty25,lty34,lty23,lty36,lty40,lty98,lty96,lty93,lty95,lty54,lty38,lty31, lenv_mem, none1, hnt, g0, g2, g4, g7, g8, g9, g10, h2]
      refine hQ2 _ _ _ _ (by simp) ?_
      try simp +decide -implicitDefEqProofs only [stp,code_seq,evWanted,evOp,val,absV,evBin,evConv,evBuiltin,cmpInt,vals,partsOf,isAggD,cellsOf,isAggV,Nat.reduceEqDiff,Nat.reduceLT,Nat.reduceBEq,Nat.reduceBNe,reduceCtorEq,if_true,if_false,reduceIte,forall_const,IntKind.bits,IntKind.signed,eq_self_iff_true,finalOf,resultOf,cellsGood,AC.isCell,senv_mem,lift, lty3,lty4,lty5,lty9,lty22,lty33,lty25,lty34,lty23,lty36,lty40,lty98,lty96,lty93,lty95,lty54,lty38,lty31, lenv_mem, none1, hnt, g0, g2, g4, g7, g8, g9, g10]
      refine hQ _ _ _ _ (.c (.sl (n + 1) (s.length + 1))) (by simp) ?_ ⟨n + 1, _, Nat.le_succ n, rfl, hAD, hMD, hIs⟩
      simp +decide -implicitDefEqProofs only [stp,code_seq,evWanted,evOp,val,absV,evBin,evConv,evBuiltin,cmpInt,vals,partsOf,isAggD,cellsOf,isAggV,Nat.reduceEqDiff,Nat.reduceLT,Nat.reduceBEq,Nat.reduceBNe,reduceCtorEq,if_true,if_false,reduceIte,forall_const,IntKind.bits,IntKind.signed,eq_self_iff_true,finalOf,resultOf,cellsGood,AC.isCell,senv_mem,lift, Tryz.f69, hnt, g7]
  · have hi : i = text.length := by omega
    have hXe : alikeB (X.drop i) (text.drop i) = true ∨ okb = false := by
      cases okb with
      | false => exact .inr rfl
      | true =>
        have hat := hob rfl
        have hXl : X.length = text.length := by rw [← hX, List.length_drop, List.length_take]; omega
        rw [List.drop_of_length_le (by omega), List.drop_of_length_le (by omega)]
        exact .inl rfl
    simp +decide -implicitDefEqProofs only [stp,code_seq,evWanted,evOp,val,absV,evBin,evConv,evBuiltin,cmpInt,vals,partsOf,isAggD,cellsOf,isAggV,Nat.reduceEqDiff,Nat.reduceLT,Nat.reduceBEq,Nat.reduceBNe,reduceCtorEq,if_true,if_false,reduceIte,forall_const,IntKind.bits,IntKind.signed,eq_self_iff_true,finalOf,resultOf,cellsGood,AC.isCell,senv_mem,lift, lty3,lty4,lty5,lty9,lty22,lty33,lty25,lty34,lty23,lty36,lty40,lty98,lty96,lty93,lty95,lty54,lty38,lty31, lenv_mem, none1, hnt, g0, g2, g4, g7, g8, g9, g10, h2]
    refine hQ2 _ _ _ _ (by simp) ?_
    cases okb with
    | false =>
      have hIs : Is s.length (List.replicate (s.length + 1) false) (den s utf M (.mk 5 text nums least most kids) a) := is_rep fun x hx => by
        rw [den_fold] at hx
        obtain ⟨rfl, hx2, hx3⟩ := hx
        rw [hX] at hx3
        have := (hal.1 ⟨hx2, hx3⟩).1
        cases this
      simp +decide -implicitDefEqProofs only [stp,code_seq,evWanted,evOp,val,absV,evBin,evConv,evBuiltin,cmpInt,vals,partsOf,isAggD,cellsOf,isAggV,Nat.reduceEqDiff,Nat.reduceLT,Nat.reduceBEq,Nat.reduceBNe,reduceCtorEq,if_true,if_false,reduceIte,forall_const,IntKind.bits,IntKind.signed,eq_self_iff_true,finalOf,resultOf,cellsGood,AC.isCell,senv_mem,lift, lty3,lty4,lty5,lty9,lty22,lty33,lty25,lty34,lty23,lty36,lty40,lty98,lty96,lty93,lty95,lty54,lty38,lty31, lenv_mem, none1, hnt, g0, g2, g4, g7, g8, g9, g10]
      try simp +decide -implicitDefEqProofs only [stp,code_seq,evWanted,evOp,val,absV,evBin,evConv,evBuiltin,cmpInt,vals,partsOf,isAggD,cellsOf,isAggV,Nat.reduceEqDiff,Nat.reduceLT,Nat.reduceBEq,Nat.reduceBNe,reduceCtorEq,if_true,if_false,reduceIte,forall_const,IntKind.bits,IntKind.signed,eq_self_iff_true,finalOf,resultOf,cellsGood,AC.isCell,senv_mem,lift, lty3,lty4,lty5,lty9,lty22,lty33,lty25,lty34,lty23,lty36,lty40,lty98,lty96,lty93,lty95,lty54,lty38,lty31, lenv_mem, none1, hnt, g0, g2, g4, g7, g8, g9, g10]
      refine hQ _ _ _ _ (.c (.sl (n + 1) (s.length + 1))) (by simp) ?_ ⟨n + 1, _, Nat.le_succ n, rfl, hAD, hMD, hIs⟩
      simp +decide -implicitDefEqProofs only [stp,code_seq,evWanted,evOp,val,absV,evBin,evConv,evBuiltin,cmpInt,vals,partsOf,isAggD,cellsOf,isAggV,Nat.reduceEqDiff,Nat.reduceLT,Nat.reduceBEq,Nat.reduceBNe,reduceCtorEq,if_true,if_false,reduceIte,forall_const,IntKind.bits,IntKind.signed,eq_self_iff_true,finalOf,resultOf,cellsGood,AC.isCell,senv_mem,lift, Tryz.f69, hnt, g7]
    | true =>
      have hat := hob rfl
      have hIs := (is_put (b := true) (is_rep (L := s.length) (S := fun _ => False) (fun _ => id)) hat).congr (T := den s utf M (.mk 5 text nums least most kids) a) fun x => by
        rw [den_fold]
        have hal2 := hXe.resolve_right (by simp)
        constructor
        · rintro (⟨rfl, _⟩ | ⟨_, h⟩)
          · exact ⟨rfl, (hal.2 ⟨rfl, hal2⟩).1, by rw [hX]; exact (hal.2 ⟨rfl, hal2⟩).2⟩
          · exact h.elim
        · rintro ⟨rfl, h2, h3⟩
          exact .inl ⟨rfl, rfl⟩
      have k0 : (0 : Int) ≤ ((a + text.length : Nat) : Int) := by omega
      have k1 : ((a + text.length : Nat) : Int) < ((s.length + 1 : Nat) : Int) := by omega
      have k2 : a + text.length + 1 ≤ s.length + 1 := by omega
      have hst := splice_mks (X := List.replicate (s.length + 1) false) (i := a + text.length) (b := true) (by simp; omega)
      simp +decide -implicitDefEqProofs only [stp,code_seq,evWanted,evOp,val,absV,evBin,evConv,evBuiltin,cmpInt,vals,partsOf,isAggD,cellsOf,isAggV,Nat.reduceEqDiff,Nat.reduceLT,Nat.reduceBEq,Nat.reduceBNe,reduceCtorEq,if_true,if_false,reduceIte,forall_const,IntKind.bits,IntKind.signed,eq_self_iff_true,finalOf,resultOf,cellsGood,AC.isCell,senv_mem,lift, lty3,lty4,lty5,lty9,lty22,lty33,lty25,lty34,lty23,lty36,lty40,lty98,lty96,lty93,lty95,lty54,lty38,lty31, lenv_mem, none1, hnt, g0, g2, g4, g7, g8, g9, g10, hadd, k0, k1, Int.toNat_natCast, hMD, mksC_len, k2, hst, Bool.true_or]
      try simp +decide -implicitDefEqProofs only [stp,code_seq,evWanted,evOp,val,absV,evBin,evConv,evBuiltin,cmpInt,vals,partsOf,isAggD,cellsOf,isAggV,Nat.reduceEqDiff,Nat.reduceLT,Nat.reduceBEq,Nat.reduceBNe,reduceCtorEq,if_true,if_false,reduceIte,forall_const,IntKind.bits,IntKind.signed,eq_self_iff_true,finalOf,resultOf,cellsGood,AC.isCell,senv_mem,lift, lty3,lty4,lty5,lty9,lty22,lty33,lty25,lty34,lty23,lty36,lty40,lty98,lty96,lty93,lty95,lty54,lty38,lty31, lenv_mem, none1, hnt, g0, g2, g4, g7, g8, g9, g10]
      refine hQ _ _ _ _ (.c (.sl (n + 1) (s.length + 1))) (by simp) ?_ ⟨n + 1, _, Nat.le_succ n, rfl, (hAD.cons (j := n + 1) (by omega)), (by rw [get_cons, if_pos rfl]), hIs⟩
      simp +decide -implicitDefEqProofs only [stp,code_seq,evWanted,evOp,val,absV,evBin,evConv,evBuiltin,cmpInt,vals,partsOf,isAggD,cellsOf,isAggV,Nat.reduceEqDiff,Nat.reduceLT,Nat.reduceBEq,Nat.reduceBNe,reduceCtorEq,if_true,if_false,reduceIte,forall_const,IntKind.bits,IntKind.signed,eq_self_iff_true,finalOf,resultOf,cellsGood,AC.isCell,senv_mem,lift, Tryz.f69, hnt, g7]

end Go.Proofs.YtdpielghjaehbaaGreat.Ev

/- regletref06: the ends of numbers. -/
set_option linter.unusedSectionVars false
set_option linter.unusedSimpArgs false
set_option linter.unusedVariables false
namespace Go.Proofs.YtdpielghjaehbaaGreat.Ev
open Go.RowKit

variable {mem : Nat → Nat → Option Value} {B0 : Nat}

theorem text_next {utf : Bool} {nums : List Int} {i k : Nat} {z : Int} {s : List UInt8} (hz : nums[i]? = some z) (x : Nat) :
    (∃ b, textOf utf (nums.drop i) = some b ∧ preB (s.drop k) b = true ∧ x = k + b.length) ↔ (atB s (senseBytes z utf) k = true ∧ ∃ b, textOf utf (nums.drop (i + 1)) = some b ∧ preB (s.drop (k + (senseBytes z utf).length)) b = true ∧ x = (k + (senseBytes z utf).length) + b.length) := by
  rw [textOf_step hz]
  have hul : (u8s (senseBytes z utf)).length = (senseBytes z utf).length := by simp [u8s]
  by_cases h0 : senseBytes z utf = []
  · rw [if_pos h0, h0]
    constructor
    · rintro ⟨b, h, _⟩; cases h
    · rintro ⟨h, _⟩
      simp [atB] at h
  · rw [if_neg h0]
    have hpos : (decide (0 < ((senseBytes z utf).length : Int))) = true := by
      have : (senseBytes z utf).length ≠ 0 := fun h => h0 (List.eq_nil_of_length_eq_zero h)
      rw [decide_eq_true_eq]; omega
    unfold atB
    rw [hpos, Bool.true_and, preB_iff]
    constructor
    · rintro ⟨b, h, h2, rfl⟩
      obtain ⟨r, hr, rfl⟩ := Option.map_eq_some_iff.1 h
      rw [preB_iff, pre_append, List.drop_drop, hul] at h2
      exact ⟨h2.1, r, hr, preB_iff.2 h2.2, by rw [List.length_append, hul]; omega⟩
    · rintro ⟨h1, r, hr, h2, rfl⟩
      refine ⟨u8s (senseBytes z utf) ++ r, by rw [hr]; rfl, ?_, by rw [List.length_append, hul]; omega⟩
      rw [preB_iff, pre_append, List.drop_drop, hul]
      exact ⟨h1, preB_iff.1 h2⟩

theorem atB_le {s : List UInt8} {u : List Int} {k : Nat} (h : atB s u k = true) (hk : k ≤ s.length) : k + u.length ≤ s.length := by
  unfold atB at h
  rw [Bool.and_eq_true, preB_iff] at h
  have := h.2.length_le
  rw [List.length_drop] at this
  simp [u8s] at this
  omega

set_option maxRecDepth 20000 in
set_option maxHeartbeats 4000000 in
theorem leaf6_ok {w0 : World} {Bx : Nat} {d : Seg} {n ix a : Nat} {G TT : AC} {s : List UInt8} {utf : Bool} {M : Kn} {NM : List (List UInt8)} {text : List UInt8} {nums : List Int} {least most : Int} {kids : List Ex} {cs : List Value}
    (hx1 : SR d ix G s utf TT) (hcs : ExAt w0 Bx (.mk 6 text nums least most kids) cs) (hwf : wfEx NM (.mk 6 text nums least most kids) = true) (ha : a ≤ s.length) (hs0 : s.length < 1000) :
    CallsA Tryz.prog (lenv (memOf w0)) B0 69 [.c (.ptr ix 0), .agg (cs.map lift), .c (.int .i64 a)] d n fun v d' n' => Made n s.length (den s utf M (.mk 6 text nums least most kids) a) d v d' := by
  refine callsA_code lenv_ok none1_ok Tryz.func69 rfl (by decide) rfl rfl (by simp) fun hl _ Q hQ => ?_
  simp only [wfEx, Bool.and_eq_true, decide_eq_true_eq] at hwf
  obtain ⟨⟨⟨⟨⟨⟨⟨⟨hw3, hw4⟩, hw7⟩, hnl⟩, htl⟩, hkl⟩, hw8⟩, hw9⟩, hwk⟩ := hwf
  obtain ⟨L, N0, K0, rfl, hx⟩ := six_of hcs
  obtain ⟨L, hLe⟩ : ∃ L, cs.map lift = L := ⟨_, rfl⟩
  rw [hLe] at hx ⊢
  obtain ⟨h6, hg, c0, c1, c2, c3, c4, c5, hT, hK, hN⟩ := hx
  have hixn := (hl ix _ hx1).1
  unfold SR at hx1
  have e1 : ¬ n = ix := by omega
  have e2 : ¬ n + 1 = ix := by omega
  have e3 : ¬ n + 1 = n := by omega
  have hw1 : IntKind.i64.wrap ((s.length : Int) + 1) = ((s.length + 1 : Nat) : Int) := wrap_succ (by omega)
  have hp0 : (0 : Int) ≤ ((s.length + 1 : Nat) : Int) := by omega
  have hp1 : ((s.length + 1 : Nat) : Int) ≤ 100000 := by omega
  simp +decide -implicitDefEqProofs only [stp,code_seq,evWanted,evOp,val,absV,evBin,evConv,evBuiltin,cmpInt,vals,partsOf,isAggD,cellsOf,isAggV,Nat.reduceEqDiff,Nat.reduceLT,Nat.reduceBEq,Nat.reduceBNe,reduceCtorEq,if_true,if_false,reduceIte,forall_const,IntKind.bits,IntKind.signed,eq_self_iff_true,finalOf,resultOf,cellsGood,AC.isCell,senv_mem,lift, Tryz.f69, lty3,lty4,lty5,lty9,lty22,lty33,lty25,lty34,lty23,lty36,lty40,lty98,lty96,lty93,lty95,lty54,lty38,lty31, lenv_mem, none1, h6, hg, c0, c1, hx1, e1, e2, e3, hw1, hp0, hp1, Int.toNat_natCast, rep_mks]
  obtain ⟨D, hD⟩ : ∃ D, (n + 1, some (AObj.cells 4 (mksC (List.replicate (s.length + 1) false)))) :: (n, some (AObj.cells 36 L)) :: d = D := ⟨_, rfl⟩
  have hAD : Adds n d D := by rw [← hD]; exact ((Adds.refl n d).cons (Nat.le_refl _)).cons (by omega)
  have hxD : get [D] ix = some (.cells 95 [G, .str s, .bool utf, TT]) := by rw [← hD, get_cons, if_neg e2, get_cons, if_neg e1]; exact hx1
  have hED : get [D] n = some (.cells 36 L) := by rw [← hD, get_cons, if_neg e3, get_cons, if_pos rfl]
  have hMD : get [D] (n + 1) = some (.cells 4 (mksC (List.replicate (s.length + 1) false))) := by rw [← hD, get_cons, if_pos rfl]
  rw [hD]
  refine code_loop lenv_ok none1_ok (fun q sl d' n' => sl.nt = 172 ∧ Adds (n + 2) D d' ∧ n + 2 ≤ n' ∧ ∃ (i k : Nat), i + q = nums.length ∧ sl.get 0 = .c (.ptr ix 0) ∧ sl.get 4 = .c (.ptr n 0) ∧ sl.get 7 = .c (.sl (n + 1) (s.length + 1)) ∧ sl.get 11 = .c (.int .i64 k) ∧ sl.get 12 = .c (.int .i64 i) ∧ k ≤ s.length ∧
    ∀ x, den s utf M (.mk 6 text nums least most kids) a x ↔ ∃ b, textOf utf (nums.drop i) = some b ∧ preB (s.drop k) b = true ∧ x = k + b.length) nums.length ?_ ?_
  · refine ⟨by simp only [nt_put], Adds.refl _ _, Nat.le_refl _, 0, a, by omega, ?_⟩
    simp +decide -implicitDefEqProofs only [stp,code_seq,evWanted,evOp,val,absV,evBin,evConv,evBuiltin,cmpInt,vals,partsOf,isAggD,cellsOf,isAggV,Nat.reduceEqDiff,Nat.reduceLT,Nat.reduceBEq,Nat.reduceBNe,reduceCtorEq,if_true,if_false,reduceIte,forall_const,IntKind.bits,IntKind.signed,eq_self_iff_true,finalOf,resultOf,cellsGood,AC.isCell,senv_mem,lift]
    exact ⟨rfl, ha, fun x => by rw [den_nums, List.drop_zero]⟩
  rintro q sl d1 n1 ⟨hnt, hA1, hn1, i, k, hiq, g0, g4, g7, g11, g12, hk, hden⟩ hl2 hs2 Q' hQ1 hQ2
  have hxD := (hA1.keeps ix (by omega)).trans hxD
  have hED := (hA1.keeps n (by omega)).trans hED
  have hMD := (hA1.keeps (n + 1) (by omega)).trans hMD
  have hadd := hAD.trans hA1 (show n ≤ n + 2 by omega)
  by_cases h2 : (i : Int) < nums.length
  · obtain ⟨z, hz⟩ : ∃ z, nums[i]? = some z := ⟨_, List.getElem?_eq_getElem (by omega)⟩
    rcases hN with ⟨rfl, rfl⟩ | ⟨b, cap, rfl, hmem⟩
    · simp at hz
    have hi0 : (0 : Int) ≤ (i : Int) := by omega
    have hmz := hmem i z hz
    have hub := senseBytes_bytes z utf
    have hul := senseBytes_len z utf
    simp +decide -implicitDefEqProofs only [stp,code_seq,evWanted,evOp,val,absV,evBin,evConv,evBuiltin,cmpInt,vals,partsOf,isAggD,cellsOf,isAggV,Nat.reduceEqDiff,Nat.reduceLT,Nat.reduceBEq,Nat.reduceBNe,reduceCtorEq,if_true,if_false,reduceIte,forall_const,IntKind.bits,IntKind.signed,eq_self_iff_true,finalOf,resultOf,cellsGood,AC.isCell,senv_mem,lift, lty3,lty4,lty5,lty9,lty22,lty33,lty25,lty34,lty23,lty36,lty40,lty98,lty96,lty93,lty95,lty54,lty38,lty31, lenv_mem, none1, hnt, g0, g4, g7, g11, g12, hED, c2, h2]
    apply code_tail lenv_ok none1_ok 9 (by kernel_rfl) (by kernel_rfl)
    · simp +decide -implicitDefEqProofs only [stp,code_seq,evWanted,evOp,val,absV,evBin,evConv,evBuiltin,cmpInt,vals,partsOf,isAggD,cellsOf,isAggV,Nat.reduceEqDiff,Nat.reduceLT,Nat.reduceBEq,Nat.reduceBNe,reduceCtorEq,if_true,if_false,reduceIte,forall_const,IntKind.bits,IntKind.signed,eq_self_iff_true,finalOf,resultOf,cellsGood,AC.isCell,senv_mem,lift, flat,d_nil,d_cons,d_true,d_false,d_some,d_some1,slotsAt_get,slotsAt_nt,get_mk_cons,get_mk,wrs_nil,wrs_cons,wrs_none,get_heapAt,get_seen_nil,get_seen_cons,get_seen_one,List.cons_append,List.nil_append,Nat.reduceSub,Nat.reduceAdd,Nat.add_one_sub_one,bitOf, evOps, lty3,lty4,lty5,lty9,lty22,lty33,lty25,lty34,lty23,lty36,lty40,lty98,lty96,lty93,lty95,lty54,lty38,lty31, lenv_mem, hnt, g0, g4, g7, g11, g12, hED, c2, h2, hi0, Int.toNat_natCast, hmz, hxD, spliceAll,allFields,places,splice,List.take_zero,List.take_succ_cons,List.take_nil,List.drop_zero,List.drop_succ_cons,List.drop_nil,List.nil_append,List.append_nil,List.cons_append,List.all_cons,List.all_nil,Option.isSome_some,Nat.reduceAdd,Nat.reduceSub,Nat.reduceMul,Nat.reduceMod,Nat.reduceLeDiff,List.range,List.range.loop,List.map_cons,List.map_nil,pfind]
      rfl
    · simp +decide -implicitDefEqProofs only [stp,code_seq,evWanted,evOp,val,absV,evBin,evConv,evBuiltin,cmpInt,vals,partsOf,isAggD,cellsOf,isAggV,Nat.reduceEqDiff,Nat.reduceLT,Nat.reduceBEq,Nat.reduceBNe,reduceCtorEq,if_true,if_false,reduceIte,forall_const,IntKind.bits,IntKind.signed,eq_self_iff_true,finalOf,resultOf,cellsGood,AC.isCell,senv_mem,lift, flat,d_nil,d_cons,d_true,d_false,d_some,d_some1,slotsAt_get,slotsAt_nt,get_mk_cons,get_mk,wrs_nil,wrs_cons,wrs_none,get_heapAt,get_seen_nil,get_seen_cons,get_seen_one,List.cons_append,List.nil_append,Nat.reduceSub,Nat.reduceAdd,Nat.add_one_sub_one,bitOf, lty3,lty4,lty5,lty9,lty22,lty33,lty25,lty34,lty23,lty36,lty40,lty98,lty96,lty93,lty95,lty54,lty38,lty31, lenv_mem, none1, hnt, g0, g4, g7, g11, g12, List.drop_succ_cons, List.drop_zero]
      refine call_mono (l_refBytesA z utf d1 n1) fun v d3 n3 hR hl3 hle3 hok3 => ?_
      obtain ⟨y, hA3, _, rfl, hin⟩ := hR
      have hxD3 : SR d3 ix G s utf TT := (hA3.keeps ix (by omega)).trans hxD
      simp +decide -implicitDefEqProofs only [stp,code_seq,evWanted,evOp,val,absV,evBin,evConv,evBuiltin,cmpInt,vals,partsOf,isAggD,cellsOf,isAggV,Nat.reduceEqDiff,Nat.reduceLT,Nat.reduceBEq,Nat.reduceBNe,reduceCtorEq,if_true,if_false,reduceIte,forall_const,IntKind.bits,IntKind.signed,eq_self_iff_true,finalOf,resultOf,cellsGood,AC.isCell,senv_mem,lift, flat,d_nil,d_cons,d_true,d_false,d_some,d_some1,slotsAt_get,slotsAt_nt,get_mk_cons,get_mk,wrs_nil,wrs_cons,wrs_none,get_heapAt,get_seen_nil,get_seen_cons,get_seen_one,List.cons_append,List.nil_append,Nat.reduceSub,Nat.reduceAdd,Nat.add_one_sub_one,bitOf, lty3,lty4,lty5,lty9,lty22,lty33,lty25,lty34,lty23,lty36,lty40,lty98,lty96,lty93,lty95,lty54,lty38,lty31, lenv_mem, none1, hnt, g0, g4, g7, g11, g12]
      refine call_mono (at_ok hxD3 hin hub hk (by omega) (by omega)) fun v d4 n4 hR hl4 hle4 hok4 => ?_
      obtain ⟨rfl, rfl, rfl⟩ := hR
      have hA13 := hA1.trans hA3 hn1
      cases hat : atB s (senseBytes z utf) k with
      | false =>
        simp +decide -implicitDefEqProofs only [stp,code_seq,evWanted,evOp,val,absV,evBin,evConv,evBuiltin,cmpInt,vals,partsOf,isAggD,cellsOf,isAggV,Nat.reduceEqDiff,Nat.reduceLT,Nat.reduceBEq,Nat.reduceBNe,reduceCtorEq,if_true,if_false,reduceIte,forall_const,IntKind.bits,IntKind.signed,eq_self_iff_true,finalOf,resultOf,cellsGood,AC.isCell,senv_mem,lift, lty3,lty4,lty5,lty9,lty22,lty33,lty25,lty34,lty23,lty36,lty40,lty98,lty96,lty93,lty95,lty54,lty38,lty31, lenv_mem, none1, hnt, g0, g4, g7, g11, g12]
        refine hQ2 _ _ _ _ (by simp) ?_
        simp +decide -implicitDefEqProofs only [stp,code_seq,evWanted,evOp,val,absV,evBin,evConv,evBuiltin,cmpInt,vals,partsOf,isAggD,cellsOf,isAggV,Nat.reduceEqDiff,Nat.reduceLT,Nat.reduceBEq,Nat.reduceBNe,reduceCtorEq,if_true,if_false,reduceIte,forall_const,IntKind.bits,IntKind.signed,eq_self_iff_true,finalOf,resultOf,cellsGood,AC.isCell,senv_mem,lift, lty3,lty4,lty5,lty9,lty22,lty33,lty25,lty34,lty23,lty36,lty40,lty98,lty96,lty93,lty95,lty54,lty38,lty31, lenv_mem, none1, hnt, g0, g4, g7, g11, g12]
        refine hQ _ _ _ _ (.c (.sl (n + 1) (s.length + 1))) (by simp) ?_ ⟨n + 1, _, Nat.le_succ n, rfl, hAD.trans hA13 (by omega), (hA3.keeps (n + 1) (by omega)).trans hMD, is_rep fun x hx => ?_⟩
        · simp +decide -implicitDefEqProofs only [stp,code_seq,evWanted,evOp,val,absV,evBin,evConv,evBuiltin,cmpInt,vals,partsOf,isAggD,cellsOf,isAggV,Nat.reduceEqDiff,Nat.reduceLT,Nat.reduceBEq,Nat.reduceBNe,reduceCtorEq,if_true,if_false,reduceIte,forall_const,IntKind.bits,IntKind.signed,eq_self_iff_true,finalOf,resultOf,cellsGood,AC.isCell,senv_mem,lift, Tryz.f69, hnt]
        · rw [hden, text_next hz, hat] at hx
          cases hx.1
      | true =>
        have hkl := atB_le hat hk
        have hne : senseBytes z utf ≠ [] := by
          intro h
          rw [h] at hat
          simp [atB] at hat
        rcases hin with ⟨_, h⟩ | ⟨_, j, rfl, hj⟩
        · exact absurd h hne
        have hw2 : IntKind.i64.wrap ((k : Int) + ((senseBytes z utf).length : Int)) = ((k + (senseBytes z utf).length : Nat) : Int) := by rw [wrap_id (by omega) (by omega)]; rfl
        simp +decide -implicitDefEqProofs only [stp,code_seq,evWanted,evOp,val,absV,evBin,evConv,evBuiltin,cmpInt,vals,partsOf,isAggD,cellsOf,isAggV,Nat.reduceEqDiff,Nat.reduceLT,Nat.reduceBEq,Nat.reduceBNe,reduceCtorEq,if_true,if_false,reduceIte,forall_const,IntKind.bits,IntKind.signed,eq_self_iff_true,finalOf,resultOf,cellsGood,AC.isCell,senv_mem,lift, lty3,lty4,lty5,lty9,lty22,lty33,lty25,lty34,lty23,lty36,lty40,lty98,lty96,lty93,lty95,lty54,lty38,lty31, lenv_mem, none1, hnt, g0, g4, g7, g11, g12, hw2]
        refine hQ1 (q - 1) _ _ _ (by omega) ⟨by simp only [nt_put, hnt], hA13, by omega, i + 1, k + (senseBytes z utf).length, by omega, ?_⟩
        simp +decide -implicitDefEqProofs only [stp,code_seq,evWanted,evOp,val,absV,evBin,evConv,evBuiltin,cmpInt,vals,partsOf,isAggD,cellsOf,isAggV,Nat.reduceEqDiff,Nat.reduceLT,Nat.reduceBEq,Nat.reduceBNe,reduceCtorEq,if_true,if_false,reduceIte,forall_const,IntKind.bits,IntKind.signed,eq_self_iff_true,finalOf,resultOf,cellsGood,AC.isCell,senv_mem,lift, hnt, g0, g4, g7]
        rw [wrap_succ (by omega)]
        refine ⟨rfl, hkl, fun x => ?_⟩
        rw [hden, text_next hz]
        exact ⟨fun h => h.2, fun h => ⟨hat, h⟩⟩
  · have hi : i = nums.length := by omega
    have hIs := (is_put (b := true) (is_rep (L := s.length) (S := fun _ => False) (fun _ => id)) hk).congr (T := den s utf M (.mk 6 text nums least most kids) a) fun x => by
      rw [hden, hi, List.drop_length]
      constructor
      · rintro (⟨rfl, _⟩ | ⟨_, h⟩)
        · exact ⟨[], rfl, preB_iff.2 (List.nil_prefix), rfl⟩
        · exact h.elim
      · rintro ⟨b, h, _, rfl⟩
        simp only [textOf, Option.some.injEq] at h
        subst h
        exact .inl ⟨rfl, rfl⟩
    have k0 : (0 : Int) ≤ (k : Int) := by omega
    have k1 : (k : Int) < ((s.length + 1 : Nat) : Int) := by omega
    have k2 : k + 1 ≤ s.length + 1 := by omega
    have hst := splice_mks (X := List.replicate (s.length + 1) false) (i := k) (b := true) (by simp; omega)
    rcases hN with ⟨rfl, rfl⟩ | ⟨b, cap, rfl, hmem⟩
    · have h2 : ¬ (i : Int) < 0 := by omega
      simp +decide -implicitDefEqProofs only [stp,code_seq,evWanted,evOp,val,absV,evBin,evConv,evBuiltin,cmpInt,vals,partsOf,isAggD,cellsOf,isAggV,Nat.reduceEqDiff,Nat.reduceLT,Nat.reduceBEq,Nat.reduceBNe,reduceCtorEq,if_true,if_false,reduceIte,forall_const,IntKind.bits,IntKind.signed,eq_self_iff_true,finalOf,resultOf,cellsGood,AC.isCell,senv_mem,lift, lty3,lty4,lty5,lty9,lty22,lty33,lty25,lty34,lty23,lty36,lty40,lty98,lty96,lty93,lty95,lty54,lty38,lty31, lenv_mem, none1, hnt, g0, g4, g7, g11, g12, h2, hED, c2]
      refine hQ2 _ _ _ _ (by simp) ?_
      simp +decide -implicitDefEqProofs only [stp,code_seq,evWanted,evOp,val,absV,evBin,evConv,evBuiltin,cmpInt,vals,partsOf,isAggD,cellsOf,isAggV,Nat.reduceEqDiff,Nat.reduceLT,Nat.reduceBEq,Nat.reduceBNe,reduceCtorEq,if_true,if_false,reduceIte,forall_const,IntKind.bits,IntKind.signed,eq_self_iff_true,finalOf,resultOf,cellsGood,AC.isCell,senv_mem,lift, lty3,lty4,lty5,lty9,lty22,lty33,lty25,lty34,lty23,lty36,lty40,lty98,lty96,lty93,lty95,lty54,lty38,lty31, lenv_mem, none1, hnt, g0, g4, g7, g11, g12, k0, k1, Int.toNat_natCast, hMD, mksC_len, k2, hst, Bool.true_or, List.length_replicate]
      refine hQ _ _ _ _ (.c (.sl (n + 1) (s.length + 1))) (by simp) ?_ ⟨n + 1, _, Nat.le_succ n, rfl, hadd.cons (j := n + 1) (by omega), by rw [get_cons, if_pos rfl], hIs⟩
      simp +decide -implicitDefEqProofs only [stp,code_seq,evWanted,evOp,val,absV,evBin,evConv,evBuiltin,cmpInt,vals,partsOf,isAggD,cellsOf,isAggV,Nat.reduceEqDiff,Nat.reduceLT,Nat.reduceBEq,Nat.reduceBNe,reduceCtorEq,if_true,if_false,reduceIte,forall_const,IntKind.bits,IntKind.signed,eq_self_iff_true,finalOf,resultOf,cellsGood,AC.isCell,senv_mem,lift, Tryz.f69, hnt, g7]
    · skip
      simp +decide -implicitDefEqProofs only [stp,code_seq,evWanted,evOp,val,absV,evBin,evConv,evBuiltin,cmpInt,vals,partsOf,isAggD,cellsOf,isAggV,Nat.reduceEqDiff,Nat.reduceLT,Nat.reduceBEq,Nat.reduceBNe,reduceCtorEq,if_true,if_false,reduceIte,forall_const,IntKind.bits,IntKind.signed,eq_self_iff_true,finalOf,resultOf,cellsGood,AC.isCell,senv_mem,lift, lty3,lty4,lty5,lty9,lty22,lty33,lty25,lty34,lty23,lty36,lty40,lty98,lty96,lty93,lty95,lty54,lty38,lty31, lenv_mem, none1, hnt, g0, g4, g7, g11, g12, h2, hED, c2]
      refine hQ2 _ _ _ _ (by simp) ?_
      simp +decide -implicitDefEqProofs only [stp,code_seq,evWanted,evOp,val,absV,evBin,evConv,evBuiltin,cmpInt,vals,partsOf,isAggD,cellsOf,isAggV,Nat.reduceEqDiff,Nat.reduceLT,Nat.reduceBEq,Nat.reduceBNe,reduceCtorEq,if_true,if_false,reduceIte,forall_const,IntKind.bits,IntKind.signed,eq_self_iff_true,finalOf,resultOf,cellsGood,AC.isCell,senv_mem,lift, lty3,lty4,lty5,lty9,lty22,lty33,lty25,lty34,lty23,lty36,lty40,lty98,lty96,lty93,lty95,lty54,lty38,lty31, lenv_mem, none1, hnt, g0, g4, g7, g11, g12, k0, k1, Int.toNat_natCast, hMD, mksC_len, k2, hst, Bool.true_or, List.length_replicate]
      refine hQ _ _ _ _ (.c (.sl (n + 1) (s.length + 1))) (by simp) ?_ ⟨n + 1, _, Nat.le_succ n, rfl, hadd.cons (j := n + 1) (by omega), by rw [get_cons, if_pos rfl], hIs⟩
      simp +decide -implicitDefEqProofs only [stp,code_seq,evWanted,evOp,val,absV,evBin,evConv,evBuiltin,cmpInt,vals,partsOf,isAggD,cellsOf,isAggV,Nat.reduceEqDiff,Nat.reduceLT,Nat.reduceBEq,Nat.reduceBNe,reduceCtorEq,if_true,if_false,reduceIte,forall_const,IntKind.bits,IntKind.signed,eq_self_iff_true,finalOf,resultOf,cellsGood,AC.isCell,senv_mem,lift, Tryz.f69, hnt, g7]

set_option maxRecDepth 20000 in
set_option maxHeartbeats 4000000 in
theorem leaf0_ok {w0 : World} {Bx : Nat} {d : Seg} {n ix a : Nat} {G TT : AC} {s : List UInt8} {utf : Bool} {M : Kn} {NM : List (List UInt8)} {kind : Int} {text : List UInt8} {nums : List Int} {least most : Int} {kids : List Ex} {cs : List Value}
    (k1 : kind ≠ 1) (k2 : kind ≠ 2) (k3 : kind ≠ 3) (k4 : kind ≠ 4) (k5 : kind ≠ 5) (k6 : kind ≠ 6) (k7 : kind ≠ 7)
    (hx1 : SR d ix G s utf TT) (hcs : ExAt w0 Bx (.mk kind text nums least most kids) cs) (hwf : wfEx NM (.mk kind text nums least most kids) = true) (ha : a ≤ s.length) (hs0 : s.length < 1000) :
    CallsA Tryz.prog (lenv (memOf w0)) B0 69 [.c (.ptr ix 0), .agg (cs.map lift), .c (.int .i64 a)] d n fun v d' n' => Made n s.length (den s utf M (.mk kind text nums least most kids) a) d v d' := by
  refine callsA_code lenv_ok none1_ok Tryz.func69 rfl (by decide) rfl rfl (by simp) fun hl _ Q hQ => ?_
  simp only [wfEx, Bool.and_eq_true, decide_eq_true_eq] at hwf
  obtain ⟨⟨⟨⟨⟨⟨⟨⟨hw3, hw4⟩, hw7⟩, hnl⟩, htl⟩, hkl⟩, hw8⟩, hw9⟩, hwk⟩ := hwf
  obtain ⟨L, N0, K0, rfl, hx⟩ := six_of hcs
  obtain ⟨L, hLe⟩ : ∃ L, cs.map lift = L := ⟨_, rfl⟩
  rw [hLe] at hx ⊢
  obtain ⟨h6, hg, c0, c1, c2, c3, c4, c5, hT, hK, hN⟩ := hx
  have hixn := (hl ix _ hx1).1
  unfold SR at hx1
  have e1 : ¬ n = ix := by omega
  have e2 : ¬ n + 1 = ix := by omega
  have e3 : ¬ n + 1 = n := by omega
  have hw1 : IntKind.i64.wrap ((s.length : Int) + 1) = ((s.length + 1 : Nat) : Int) := wrap_succ (by omega)
  have hp0 : (0 : Int) ≤ ((s.length + 1 : Nat) : Int) := by omega
  have hp1 : ((s.length + 1 : Nat) : Int) ≤ 100000 := by omega
  have q5 : (kind == 5) = false := by simpa using k5
  have q6 : (kind == 6) = false := by simpa using k6
  have q7 : (kind == 7) = false := by simpa using k7
  simp +decide -implicitDefEqProofs only [stp,code_seq,evWanted,evOp,val,absV,evBin,evConv,evBuiltin,cmpInt,vals,partsOf,isAggD,cellsOf,isAggV,Nat.reduceEqDiff,Nat.reduceLT,Nat.reduceBEq,Nat.reduceBNe,reduceCtorEq,if_true,if_false,reduceIte,forall_const,IntKind.bits,IntKind.signed,eq_self_iff_true,finalOf,resultOf,cellsGood,AC.isCell,senv_mem,lift, Tryz.f69, lty3,lty4,lty5,lty9,lty22,lty33,lty25,lty34,lty23,lty36,lty40,lty98,lty96,lty93,lty95,lty54,lty38,lty31, lenv_mem, none1, h6, hg, c0, c1, hx1, e1, e2, e3, hw1, hp0, hp1, Int.toNat_natCast, rep_mks, q5, q6, q7]
  obtain ⟨D, hD⟩ : ∃ D, (n + 1, some (AObj.cells 4 (mksC (List.replicate (s.length + 1) false)))) :: (n, some (AObj.cells 36 L)) :: d = D := ⟨_, rfl⟩
  have hAD : Adds n d D := by rw [← hD]; exact ((Adds.refl n d).cons (Nat.le_refl _)).cons (by omega)
  have hxD : get [D] ix = some (.cells 95 [G, .str s, .bool utf, TT]) := by rw [← hD, get_cons, if_neg e2, get_cons, if_neg e1]; exact hx1
  have hED : get [D] n = some (.cells 36 L) := by rw [← hD, get_cons, if_neg e3, get_cons, if_pos rfl]
  have hMD : get [D] (n + 1) = some (.cells 4 (mksC (List.replicate (s.length + 1) false))) := by rw [← hD, get_cons, if_pos rfl]
  rw [hD]
  refine hQ _ _ _ _ (.c (.sl (n + 1) (s.length + 1))) (by simp) ?_ ⟨n + 1, _, Nat.le_succ n, rfl, hAD, hMD, is_rep fun x hx => ?_⟩
  · simp +decide -implicitDefEqProofs only [stp,code_seq,evWanted,evOp,val,absV,evBin,evConv,evBuiltin,cmpInt,vals,partsOf,isAggD,cellsOf,isAggV,Nat.reduceEqDiff,Nat.reduceLT,Nat.reduceBEq,Nat.reduceBNe,reduceCtorEq,if_true,if_false,reduceIte,forall_const,IntKind.bits,IntKind.signed,eq_self_iff_true,finalOf,resultOf,cellsGood,AC.isCell,senv_mem,lift, Tryz.f69]
  · rw [den_mk] at hx
    simp only [k1, k2, k3, k4, k5, k6, k7, if_false] at hx

end Go.Proofs.YtdpielghjaehbaaGreat.Ev

/- regletref06: the ends of a span. -/
set_option linter.unusedSectionVars false
set_option linter.unusedSimpArgs false
set_option linter.unusedVariables false
namespace Go.Proofs.YtdpielghjaehbaaGreat.Ev
open Go.RowKit

variable {mem : Nat → Nat → Option Value} {B0 : Nat}

theorem bytes_succ {s : List UInt8} {a i : Nat} {c : UInt8} (hc : s[i]? = some c) (ha : a ≤ i) : bytesI ((s.take (i + 1)).drop a) = bytesI ((s.take i).drop a) ++ [(c.toNat : Int)] := by
  have hi := (List.getElem?_eq_some_iff.1 hc).1
  rw [List.take_add_one, hc, List.drop_append_of_le_length (by rw [List.length_take]; omega)]
  simp [bytesI]

theorem bytes_len {s : List UInt8} {a k : Nat} (hk : k ≤ s.length) : (bytesI ((s.take k).drop a)).length = k - a := by
  simp only [bytesI, List.length_map, List.length_drop, List.length_take]; omega

set_option maxRecDepth 20000 in
set_option maxHeartbeats 4000000 in
theorem leaf7_ok {w0 : World} {Bx : Nat} {d : Seg} {n ix a : Nat} {G TT : AC} {s : List UInt8} {utf : Bool} {M : Kn} {NM : List (List UInt8)} {text : List UInt8} {nums : List Int} {least most : Int} {kids : List Ex} {cs : List Value}
    (hx1 : SR d ix G s utf TT) (hcs : ExAt w0 Bx (.mk 7 text nums least most kids) cs) (hwf : wfEx NM (.mk 7 text nums least most kids) = true) (ha : a ≤ s.length) (hs0 : s.length < 1000) :
    CallsA Tryz.prog (lenv (memOf w0)) B0 69 [.c (.ptr ix 0), .agg (cs.map lift), .c (.int .i64 a)] d n fun v d' n' => Made n s.length (den s utf M (.mk 7 text nums least most kids) a) d v d' := by
  refine callsA_code lenv_ok none1_ok Tryz.func69 rfl (by decide) rfl rfl (by simp) fun hl _ Q hQ => ?_
  simp only [wfEx, Bool.and_eq_true, decide_eq_true_eq] at hwf
  obtain ⟨⟨⟨⟨⟨⟨⟨⟨hw3, hw4⟩, hw7⟩, hnl⟩, htl⟩, hkl⟩, hw8⟩, hw9⟩, hwk⟩ := hwf
  obtain ⟨L, N0, K0, rfl, hx⟩ := six_of hcs
  obtain ⟨L, hLe⟩ : ∃ L, cs.map lift = L := ⟨_, rfl⟩
  rw [hLe] at hx ⊢
  obtain ⟨h6, hg, c0, c1, c2, c3, c4, c5, hT, hK, hN⟩ := hx
  have hixn := (hl ix _ hx1).1
  unfold SR at hx1
  have e1 : ¬ n = ix := by omega
  have e2 : ¬ n + 1 = ix := by omega
  have e3 : ¬ n + 1 = n := by omega
  have hw1 : IntKind.i64.wrap ((s.length : Int) + 1) = ((s.length + 1 : Nat) : Int) := wrap_succ (by omega)
  have hp0 : (0 : Int) ≤ ((s.length + 1 : Nat) : Int) := by omega
  have hp1 : ((s.length + 1 : Nat) : Int) ≤ 100000 := by omega
  have hn2 : 2 ≤ nums.length := by simpa using hw7
  obtain ⟨lo, hi, more, rfl⟩ : ∃ lo hi more, nums = lo :: hi :: more := by
    rcases nums with _ | ⟨lo, _ | ⟨hi, more⟩⟩
    · simp at hn2
    · simp at hn2
    · exact ⟨lo, hi, more, rfl⟩
  rcases hN with ⟨_, h⟩ | ⟨b, cap, rfl, hmem⟩
  · cases h
  have hm0 := hmem 0 lo rfl
  have hm1 := hmem 1 hi rfl
  have t0 : Int.toNat 0 = 0 := rfl
  have t1 : Int.toNat 1 = 1 := rfl
  have q00 : (0 : Int) < ((more.length + 1 + 1 : Nat) : Int) := by omega
  have q01 : (1 : Int) < ((more.length + 1 + 1 : Nat) : Int) := by omega
  have hden : ∀ x, den s utf M (.mk 7 text (lo :: hi :: more) least most kids) a x ↔ (a < x ∧ x ≤ s.length ∧ x ≤ a + 4 ∧ spanHit s utf lo hi a x = true) := fun x => by
    rw [den_mk]
    simp only [show ¬ (7 : Int) = 1 by decide, show ¬ (7 : Int) = 2 by decide, show ¬ (7 : Int) = 3 by decide, show ¬ (7 : Int) = 4 by decide, show ¬ (7 : Int) = 5 by decide, show ¬ (7 : Int) = 6 by decide, if_false, if_true]
    exact span_law
  simp +decide -implicitDefEqProofs only [stp,code_seq,evWanted,evOp,val,absV,evBin,evConv,evBuiltin,cmpInt,vals,partsOf,isAggD,cellsOf,isAggV,Nat.reduceEqDiff,Nat.reduceLT,Nat.reduceBEq,Nat.reduceBNe,reduceCtorEq,if_true,if_false,reduceIte,forall_const,IntKind.bits,IntKind.signed,eq_self_iff_true,finalOf,resultOf,cellsGood,AC.isCell,senv_mem,lift, Tryz.f69, lty3,lty4,lty5,lty9,lty22,lty33,lty25,lty34,lty23,lty36,lty40,lty98,lty96,lty93,lty95,lty54,lty38,lty31, lenv_mem, none1, h6, hg, c0, c1, hx1, e1, e2, e3, hw1, hp0, hp1, Int.toNat_natCast, rep_mks]
  obtain ⟨D, hD⟩ : ∃ D, (n + 1, some (AObj.cells 4 (mksC (List.replicate (s.length + 1) false)))) :: (n, some (AObj.cells 36 L)) :: d = D := ⟨_, rfl⟩
  have hAD : Adds n d D := by rw [← hD]; exact ((Adds.refl n d).cons (Nat.le_refl _)).cons (by omega)
  have hxD : get [D] ix = some (.cells 95 [G, .str s, .bool utf, TT]) := by rw [← hD, get_cons, if_neg e2, get_cons, if_neg e1]; exact hx1
  have hED : get [D] n = some (.cells 36 L) := by rw [← hD, get_cons, if_neg e3, get_cons, if_pos rfl]
  have hMD : get [D] (n + 1) = some (.cells 4 (mksC (List.replicate (s.length + 1) false))) := by rw [← hD, get_cons, if_pos rfl]
  rw [hD]
  have hwa1 : IntKind.i64.wrap ((a : Int) + 1) = ((a + 1 : Nat) : Int) := wrap_succ (by omega)
  refine code_loop lenv_ok none1_ok (fun q sl d' n' => sl.nt = 172 ∧ Adds n d d' ∧ n + 2 ≤ n' ∧ get [d'] ix = some (.cells 95 [G, .str s, .bool utf, TT]) ∧ get [d'] n = some (.cells 36 L) ∧ ∃ (k : Nat) (bs : List Bool), k + q = s.length + 2 ∧ a < k ∧ k ≤ a + 5 ∧ k ≤ s.length + 1 ∧
    sl.get 0 = .c (.ptr ix 0) ∧ sl.get 2 = .c (.int .i64 a) ∧ sl.get 4 = .c (.ptr n 0) ∧ sl.get 7 = .c (.sl (n + 1) (s.length + 1)) ∧ sl.get 14 = .c (.int .i64 k) ∧ get [d'] (n + 1) = some (.cells 4 (mksC bs)) ∧ Is s.length bs (fun x => a < x ∧ x < k ∧ spanHit s utf lo hi a x = true)) (s.length + 1 - a) ?_ ?_
  · refine ⟨by simp only [nt_put], hAD, Nat.le_refl _, hxD, hED, a + 1, List.replicate (s.length + 1) false, by omega, by omega, by omega, by omega, ?_⟩
    simp +decide -implicitDefEqProofs only [stp,code_seq,evWanted,evOp,val,absV,evBin,evConv,evBuiltin,cmpInt,vals,partsOf,isAggD,cellsOf,isAggV,Nat.reduceEqDiff,Nat.reduceLT,Nat.reduceBEq,Nat.reduceBNe,reduceCtorEq,if_true,if_false,reduceIte,forall_const,IntKind.bits,IntKind.signed,eq_self_iff_true,finalOf,resultOf,cellsGood,AC.isCell,senv_mem,lift, hwa1]
    exact ⟨hMD, is_rep fun x hx => by omega⟩
  clear hxD hED hMD hAD
  rintro q sl d1 n1 ⟨hnt, hA1, hn1, hxD, hED, k, bs, hkq, hak, hk5, hkL, g0, g2, g4, g7, g14, hMD, hIs⟩ hl2 hs2 Q' hQ1 hQ2
  have hwa : IntKind.i64.wrap ((a : Int) + 4) = ((a + 4 : Nat) : Int) := by rw [wrap_id (by omega) (by omega)]; rfl
  by_cases h1 : (k : Int) ≤ s.length
  · by_cases h2 : (k : Int) ≤ ((a + 4 : Nat) : Int)
    · simp +decide -implicitDefEqProofs only [stp,code_seq,evWanted,evOp,val,absV,evBin,evConv,evBuiltin,cmpInt,vals,partsOf,isAggD,cellsOf,isAggV,Nat.reduceEqDiff,Nat.reduceLT,Nat.reduceBEq,Nat.reduceBNe,reduceCtorEq,if_true,if_false,reduceIte,forall_const,IntKind.bits,IntKind.signed,eq_self_iff_true,finalOf,resultOf,cellsGood,AC.isCell,senv_mem,lift, lty3,lty4,lty5,lty9,lty22,lty33,lty25,lty34,lty23,lty36,lty40,lty98,lty96,lty93,lty95,lty54,lty38,lty31, lenv_mem, none1, hnt, g0, g2, g4, g7, g14, hxD, h1, h2, hwa]
      refine code_loop lenv_ok none1_ok (fun q2 sl d' n' => sl.nt = 172 ∧ Adds n1 d1 d' ∧ n1 ≤ n' ∧ ∃ i : Nat, i + q2 = k ∧ a ≤ i ∧ sl.get 0 = .c (.ptr ix 0) ∧ sl.get 2 = .c (.int .i64 a) ∧ sl.get 4 = .c (.ptr n 0) ∧ sl.get 7 = .c (.sl (n + 1) (s.length + 1)) ∧ sl.get 14 = .c (.int .i64 k) ∧
        sl.get 15 = .c (.int .i64 (-1)) ∧ sl.get 17 = .c (.int .i64 i) ∧ IntRow d' n1 (sl.get 16) (bytesI ((s.take i).drop a))) (k - a) ?_ ?_
      · refine ⟨by simp only [nt_put, hnt], Adds.refl _ _, Nat.le_refl _, a, by omega, Nat.le_refl _, ?_⟩
        simp +decide -implicitDefEqProofs only [stp,code_seq,evWanted,evOp,val,absV,evBin,evConv,evBuiltin,cmpInt,vals,partsOf,isAggD,cellsOf,isAggV,Nat.reduceEqDiff,Nat.reduceLT,Nat.reduceBEq,Nat.reduceBNe,reduceCtorEq,if_true,if_false,reduceIte,forall_const,IntKind.bits,IntKind.signed,eq_self_iff_true,finalOf,resultOf,cellsGood,AC.isCell,senv_mem,lift, hnt, g0, g2, g4, g7, g14]
        refine .inl ⟨?_, rfl⟩
        rw [List.drop_of_length_le (by rw [List.length_take]; omega)]
        rfl
      clear hnt g0 g2 g4 g7 g14
      rintro q2 sl d2 n3 ⟨hnt, hA2, hn3, i, hiq, hai, g0, g2, g4, g7, g14, g15, g17, hrow⟩ hl3 hs3 Q2 hP1 hP2
      have hx3 := (hA2.keeps ix (by omega)).trans hxD
      by_cases h3 : (i : Int) < k
      · obtain ⟨c, hc⟩ : ∃ c, s[i]? = some c := ⟨_, List.getElem?_eq_getElem (by omega)⟩
        have hbs := bytes_succ hc hai
        have hbl := bytes_len (s := s) (a := a) (k := i) (by omega)
        have hi0 : (0 : Int) ≤ (i : Int) := by omega
        have hcb := byte_cast c
        have hwc : IntKind.i64.wrap ((c.toNat : Nat) : Int) = (c.toNat : Int) := wrap_id (by omega) (by omega)
        rcases hrow with ⟨hw, g16⟩ | ⟨hw, jb, hjb, g16, hgj⟩
        · have e4 : True := trivial
          have e5 : True := trivial
          have e6 : True := trivial
          have e7 : True := trivial
          have hgj : True := trivial
          simp +decide -implicitDefEqProofs only [stp,code_seq,evWanted,evOp,val,absV,evBin,evConv,evBuiltin,cmpInt,vals,partsOf,isAggD,cellsOf,isAggV,Nat.reduceEqDiff,Nat.reduceLT,Nat.reduceBEq,Nat.reduceBNe,reduceCtorEq,if_true,if_false,reduceIte,forall_const,IntKind.bits,IntKind.signed,eq_self_iff_true,finalOf,resultOf,cellsGood,AC.isCell,senv_mem,lift, spliceAll,allFields,places,splice,List.take_zero,List.take_succ_cons,List.take_nil,List.drop_zero,List.drop_succ_cons,List.drop_nil,List.nil_append,List.append_nil,List.cons_append,List.all_cons,List.all_nil,Option.isSome_some,Nat.reduceAdd,Nat.reduceSub,Nat.reduceMul,Nat.reduceMod,Nat.reduceLeDiff,List.range,List.range.loop,List.map_cons,List.map_nil,pfind, lty3,lty4,lty5,lty9,lty22,lty33,lty25,lty34,lty23,lty36,lty40,lty98,lty96,lty93,lty95,lty54,lty38,lty31, lenv_mem, none1, hnt, g0, g2, g4, g7, g14, g15, g16, g17, h3, hx3, hi0, Int.toNat_natCast, hc, hwc, evAppend, hgj, e4, e5, e6, e7]
          refine hP1 (q2 - 1) _ _ _ (by omega) ⟨by simp only [nt_put, hnt], ?_, by omega, i + 1, by omega, by omega, ?_⟩
          · first
            | exact (hA2.cons (by omega)).cons (by omega)
            | exact ((hA2.cons (by omega)).cons (by omega)).cons (by omega)
          · simp +decide -implicitDefEqProofs only [stp,code_seq,evWanted,evOp,val,absV,evBin,evConv,evBuiltin,cmpInt,vals,partsOf,isAggD,cellsOf,isAggV,Nat.reduceEqDiff,Nat.reduceLT,Nat.reduceBEq,Nat.reduceBNe,reduceCtorEq,if_true,if_false,reduceIte,forall_const,IntKind.bits,IntKind.signed,eq_self_iff_true,finalOf,resultOf,cellsGood,AC.isCell,senv_mem,lift, hnt, g0, g2, g4, g7, g14, g15]
            rw [wrap_succ (by omega), hbs]
            exact ⟨rfl, .inr ⟨by simp, n3 + 1, by omega, by simp [hw], by rw [get_cons, if_pos rfl]; simp [intsC, hw]⟩⟩
        · have e4 : ¬ n3 = jb := by have := (hl3 jb _ hgj).1; omega
          have e5 : (jb == n3) = false := by simpa using fun e => e4 (Eq.symm e)
          have e6 : (intsC (bytesI ((s.take i).drop a))).length = (bytesI ((s.take i).drop a)).length := by simp [intsC]
          have e7 : ¬ (bytesI ((s.take i).drop a)).length > 100000 := by omega
          simp +decide -implicitDefEqProofs only [stp,code_seq,evWanted,evOp,val,absV,evBin,evConv,evBuiltin,cmpInt,vals,partsOf,isAggD,cellsOf,isAggV,Nat.reduceEqDiff,Nat.reduceLT,Nat.reduceBEq,Nat.reduceBNe,reduceCtorEq,if_true,if_false,reduceIte,forall_const,IntKind.bits,IntKind.signed,eq_self_iff_true,finalOf,resultOf,cellsGood,AC.isCell,senv_mem,lift, spliceAll,allFields,places,splice,List.take_zero,List.take_succ_cons,List.take_nil,List.drop_zero,List.drop_succ_cons,List.drop_nil,List.nil_append,List.append_nil,List.cons_append,List.all_cons,List.all_nil,Option.isSome_some,Nat.reduceAdd,Nat.reduceSub,Nat.reduceMul,Nat.reduceMod,Nat.reduceLeDiff,List.range,List.range.loop,List.map_cons,List.map_nil,pfind, lty3,lty4,lty5,lty9,lty22,lty33,lty25,lty34,lty23,lty36,lty40,lty98,lty96,lty93,lty95,lty54,lty38,lty31, lenv_mem, none1, hnt, g0, g2, g4, g7, g14, g15, g16, g17, h3, hx3, hi0, Int.toNat_natCast, hc, hwc, evAppend, hgj, e4, e5, e6, e7]
          refine hP1 (q2 - 1) _ _ _ (by omega) ⟨by simp only [nt_put, hnt], ?_, by omega, i + 1, by omega, by omega, ?_⟩
          · first
            | exact (hA2.cons (by omega)).cons (by omega)
            | exact ((hA2.cons (by omega)).cons (by omega)).cons (by omega)
          · simp +decide -implicitDefEqProofs only [stp,code_seq,evWanted,evOp,val,absV,evBin,evConv,evBuiltin,cmpInt,vals,partsOf,isAggD,cellsOf,isAggV,Nat.reduceEqDiff,Nat.reduceLT,Nat.reduceBEq,Nat.reduceBNe,reduceCtorEq,if_true,if_false,reduceIte,forall_const,IntKind.bits,IntKind.signed,eq_self_iff_true,finalOf,resultOf,cellsGood,AC.isCell,senv_mem,lift, hnt, g0, g2, g4, g7, g14, g15]
            rw [wrap_succ (by omega), hbs]
            exact ⟨rfl, .inr ⟨by simp, n3 + 1, by omega, by simp [hw], by rw [get_cons, if_pos rfl]; simp [intsC, hw]⟩⟩
      · have hik : i = k := by omega
        subst hik
        obtain ⟨u, hu⟩ : ∃ u, bytesI ((s.take i).drop a) = u := ⟨_, rfl⟩
        have hul : u.length = i - a := by rw [← hu]; exact bytes_len (by omega)
        have hub : ∀ z ∈ u, 0 ≤ z ∧ z < 256 := by rw [← hu]; exact bytesI_bytes _
        rw [hu] at hrow
        rcases hrow with ⟨hw, g16⟩ | ⟨hw, jb, hjb, g16, hgj⟩
        · rw [hw] at hul; simp at hul; omega
        simp +decide -implicitDefEqProofs only [stp,code_seq,evWanted,evOp,val,absV,evBin,evConv,evBuiltin,cmpInt,vals,partsOf,isAggD,cellsOf,isAggV,Nat.reduceEqDiff,Nat.reduceLT,Nat.reduceBEq,Nat.reduceBNe,reduceCtorEq,if_true,if_false,reduceIte,forall_const,IntKind.bits,IntKind.signed,eq_self_iff_true,finalOf,resultOf,cellsGood,AC.isCell,senv_mem,lift, lty3,lty4,lty5,lty9,lty22,lty33,lty25,lty34,lty23,lty36,lty40,lty98,lty96,lty93,lty95,lty54,lty38,lty31, lenv_mem, none1, hnt, g0, g2, g4, g7, g14, g15, g16, g17, h3]
        refine hP2 _ _ _ _ (by simp) ?_
        simp +decide -implicitDefEqProofs only [stp,code_seq,evWanted,evOp,val,absV,evBin,evConv,evBuiltin,cmpInt,vals,partsOf,isAggD,cellsOf,isAggV,Nat.reduceEqDiff,Nat.reduceLT,Nat.reduceBEq,Nat.reduceBNe,reduceCtorEq,if_true,if_false,reduceIte,forall_const,IntKind.bits,IntKind.signed,eq_self_iff_true,finalOf,resultOf,cellsGood,AC.isCell,senv_mem,lift, lty3,lty4,lty5,lty9,lty22,lty33,lty25,lty34,lty23,lty36,lty40,lty98,lty96,lty93,lty95,lty54,lty38,lty31, lenv_mem, none1, hnt, g0, g2, g4, g7, g14, g15, g16, g17, -code_seq]
        rw [code_seq]
        refine code_cutR (fun s' d' n' => s'.nt = 172 ∧ Adds n1 d1 d' ∧ n1 ≤ n' ∧ s'.get 0 = .c (.ptr ix 0) ∧ s'.get 2 = .c (.int .i64 a) ∧ s'.get 4 = .c (.ptr n 0) ∧ s'.get 7 = .c (.sl (n + 1) (s.length + 1)) ∧ s'.get 14 = .c (.int .i64 i) ∧ s'.get 15 = .c (.int .i64 (cOf utf u))) ?_ ?_
        · intro Q3 hQ3
          cases utf with
          | true =>
            simp +decide -implicitDefEqProofs only [stp,code_seq,evWanted,evOp,val,absV,evBin,evConv,evBuiltin,cmpInt,vals,partsOf,isAggD,cellsOf,isAggV,Nat.reduceEqDiff,Nat.reduceLT,Nat.reduceBEq,Nat.reduceBNe,reduceCtorEq,if_true,if_false,reduceIte,forall_const,IntKind.bits,IntKind.signed,eq_self_iff_true,finalOf,resultOf,cellsGood,AC.isCell,senv_mem,lift, lty3,lty4,lty5,lty9,lty22,lty33,lty25,lty34,lty23,lty36,lty40,lty98,lty96,lty93,lty95,lty54,lty38,lty31, lenv_mem, none1, hnt, g0, g2, g4, g7, g14, g15, g16, g17, hx3]
            refine call_mono (of_ok (.inr ⟨hw, jb, rfl, hgj⟩) hub (by omega) (by omega)) fun v d5 n5 hR hl5 hle5 hok5 => ?_
            obtain ⟨rfl, hA5⟩ := hR
            simp +decide -implicitDefEqProofs only [stp,code_seq,evWanted,evOp,val,absV,evBin,evConv,evBuiltin,cmpInt,vals,partsOf,isAggD,cellsOf,isAggV,Nat.reduceEqDiff,Nat.reduceLT,Nat.reduceBEq,Nat.reduceBNe,reduceCtorEq,if_true,if_false,reduceIte,forall_const,IntKind.bits,IntKind.signed,eq_self_iff_true,finalOf,resultOf,cellsGood,AC.isCell,senv_mem,lift, lty3,lty4,lty5,lty9,lty22,lty33,lty25,lty34,lty23,lty36,lty40,lty98,lty96,lty93,lty95,lty54,lty38,lty31, lenv_mem, none1, hnt, g0, g2, g4, g7, g14, g15, g16, g17]
            refine hQ3 _ _ _ ⟨by simp only [nt_put, hnt], hA2.trans hA5 hn3, by omega, ?_⟩
            simp +decide -implicitDefEqProofs only [stp,code_seq,evWanted,evOp,val,absV,evBin,evConv,evBuiltin,cmpInt,vals,partsOf,isAggD,cellsOf,isAggV,Nat.reduceEqDiff,Nat.reduceLT,Nat.reduceBEq,Nat.reduceBNe,reduceCtorEq,if_true,if_false,reduceIte,forall_const,IntKind.bits,IntKind.signed,eq_self_iff_true,finalOf,resultOf,cellsGood,AC.isCell,senv_mem,lift, hnt, g0, g2, g4, g7, g14]
            rfl
          | false =>
            by_cases h5 : u.length = 1
            · obtain ⟨z, hz⟩ : ∃ z, u[0]? = some z := ⟨_, List.getElem?_eq_getElem (by omega)⟩
              have hz0d : u.getD 0 0 = z := by rw [List.getD_eq_getElem?_getD, hz]; rfl
              have hzc : (intsC u)[0]? = some (.int .i64 z) := by simp [intsC, hz]
              have q1 : ((u.length : Int) == 1) = true := by simp [h5]
              have q2 : (0 : Int) < u.length := by omega
              simp +decide -implicitDefEqProofs only [stp,code_seq,evWanted,evOp,val,absV,evBin,evConv,evBuiltin,cmpInt,vals,partsOf,isAggD,cellsOf,isAggV,Nat.reduceEqDiff,Nat.reduceLT,Nat.reduceBEq,Nat.reduceBNe,reduceCtorEq,if_true,if_false,reduceIte,forall_const,IntKind.bits,IntKind.signed,eq_self_iff_true,finalOf,resultOf,cellsGood,AC.isCell,senv_mem,lift, lty3,lty4,lty5,lty9,lty22,lty33,lty25,lty34,lty23,lty36,lty40,lty98,lty96,lty93,lty95,lty54,lty38,lty31, lenv_mem, none1, hnt, g0, g2, g4, g7, g14, g15, g16, g17, hx3, q1, q2, hgj, t0, hzc]
              refine hQ3 _ _ _ ⟨by simp only [nt_put, hnt], hA2, by omega, ?_⟩
              simp +decide -implicitDefEqProofs only [stp,code_seq,evWanted,evOp,val,absV,evBin,evConv,evBuiltin,cmpInt,vals,partsOf,isAggD,cellsOf,isAggV,Nat.reduceEqDiff,Nat.reduceLT,Nat.reduceBEq,Nat.reduceBNe,reduceCtorEq,if_true,if_false,reduceIte,forall_const,IntKind.bits,IntKind.signed,eq_self_iff_true,finalOf,resultOf,cellsGood,AC.isCell,senv_mem,lift, hnt, g0, g2, g4, g7, g14]
              rw [show cOf false u = z by unfold cOf; rw [hz0d]; simp [h5]]
            · have q1 : ((u.length : Int) == 1) = false := by simp; omega
              simp +decide -implicitDefEqProofs only [stp,code_seq,evWanted,evOp,val,absV,evBin,evConv,evBuiltin,cmpInt,vals,partsOf,isAggD,cellsOf,isAggV,Nat.reduceEqDiff,Nat.reduceLT,Nat.reduceBEq,Nat.reduceBNe,reduceCtorEq,if_true,if_false,reduceIte,forall_const,IntKind.bits,IntKind.signed,eq_self_iff_true,finalOf,resultOf,cellsGood,AC.isCell,senv_mem,lift, lty3,lty4,lty5,lty9,lty22,lty33,lty25,lty34,lty23,lty36,lty40,lty98,lty96,lty93,lty95,lty54,lty38,lty31, lenv_mem, none1, hnt, g0, g2, g4, g7, g14, g15, g16, g17, hx3, q1]
              refine hQ3 _ _ _ ⟨by simp only [nt_put, hnt], hA2, by omega, ?_⟩
              simp +decide -implicitDefEqProofs only [stp,code_seq,evWanted,evOp,val,absV,evBin,evConv,evBuiltin,cmpInt,vals,partsOf,isAggD,cellsOf,isAggV,Nat.reduceEqDiff,Nat.reduceLT,Nat.reduceBEq,Nat.reduceBNe,reduceCtorEq,if_true,if_false,reduceIte,forall_const,IntKind.bits,IntKind.signed,eq_self_iff_true,finalOf,resultOf,cellsGood,AC.isCell,senv_mem,lift, hnt, g0, g2, g4, g7, g14, g15]
              rw [show cOf false u = -1 by unfold cOf; simp [h5]]
        · clear hnt g0 g2 g4 g7 g14 g15 g16 g17 h3
          rintro S d4 n4 ⟨hnt, hA4, hn4, g0, g2, g4, g7, g14, g15⟩
          have hE4 := (hA4.keeps n (by omega)).trans hED
          have hM4 := (hA4.keeps (n + 1) (by omega)).trans hMD
          have hbl := hIs.1
          obtain ⟨c, hcu⟩ : ∃ c, cOf utf u = c := ⟨_, rfl⟩
          rw [hcu] at g15
          have k0 : (0 : Int) ≤ (i : Int) := by omega
          have k1 : (i : Int) < ((s.length + 1 : Nat) : Int) := by omega
          have k2 : i + 1 ≤ s.length + 1 := by omega
          by_cases h3 : c ≥ lo
          · by_cases h4 : c ≤ hi
            · by_cases h5 : c ≥ 0
              · skip
                have hst := splice_mks (X := bs) (i := i) (b := true) (by rw [hIs.1]; omega)
                have hhit : spanHit s utf lo hi a i = true := by simp [spanHit, hu, hcu, h3, h4, h5]
                simp +decide -implicitDefEqProofs only [stp,code_seq,evWanted,evOp,val,absV,evBin,evConv,evBuiltin,cmpInt,vals,partsOf,isAggD,cellsOf,isAggV,Nat.reduceEqDiff,Nat.reduceLT,Nat.reduceBEq,Nat.reduceBNe,reduceCtorEq,if_true,if_false,reduceIte,forall_const,IntKind.bits,IntKind.signed,eq_self_iff_true,finalOf,resultOf,cellsGood,AC.isCell,senv_mem,lift, lty3,lty4,lty5,lty9,lty22,lty33,lty25,lty34,lty23,lty36,lty40,lty98,lty96,lty93,lty95,lty54,lty38,lty31, lenv_mem, none1, hnt, g0, g2, g4, g7, g14, g15, hE4, hM4, c2, hm0, hm1, q00, q01, t0, t1, h3, h4, h5, k0, k1, Int.toNat_natCast, mksC_len, hbl, k2, hst, Bool.true_or]
                refine hQ1 (q - 1) _ _ _ (by omega) ⟨by simp only [nt_put, hnt], (hA1.trans hA4 (by omega)).cons (j := n + 1) (by omega), by omega, by rw [get_cons, if_neg e2]; exact (hA4.keeps ix (by omega)).trans hxD, by rw [get_cons, if_neg e3]; exact hE4, i + 1, bs.set i true, by omega, by omega, by omega, by omega, ?_⟩
                simp +decide -implicitDefEqProofs only [stp,code_seq,evWanted,evOp,val,absV,evBin,evConv,evBuiltin,cmpInt,vals,partsOf,isAggD,cellsOf,isAggV,Nat.reduceEqDiff,Nat.reduceLT,Nat.reduceBEq,Nat.reduceBNe,reduceCtorEq,if_true,if_false,reduceIte,forall_const,IntKind.bits,IntKind.signed,eq_self_iff_true,finalOf,resultOf,cellsGood,AC.isCell,senv_mem,lift, hnt, g0, g2, g4, g7]
                rw [wrap_succ (by omega)]
                refine ⟨rfl, (is_put hIs (by omega)).congr fun x => ?_⟩
                constructor
                · rintro (⟨rfl, hb⟩ | ⟨hne, r1, r2, r3⟩)
                  · exact ⟨by omega, by omega, hhit.trans hb⟩
                  · exact ⟨r1, by omega, r3⟩
                · rintro ⟨r1, r2, r3⟩
                  by_cases hxk : x = i
                  · subst hxk
                    exact .inl ⟨rfl, hhit.symm.trans r3⟩
                  · exact .inr ⟨hxk, r1, by omega, r3⟩
              · skip
                have hst := splice_mks (X := bs) (i := i) (b := false) (by rw [hIs.1]; omega)
                have hhit : spanHit s utf lo hi a i = false := by simp [spanHit, hu, hcu, h3, h4, h5]
                simp +decide -implicitDefEqProofs only [stp,code_seq,evWanted,evOp,val,absV,evBin,evConv,evBuiltin,cmpInt,vals,partsOf,isAggD,cellsOf,isAggV,Nat.reduceEqDiff,Nat.reduceLT,Nat.reduceBEq,Nat.reduceBNe,reduceCtorEq,if_true,if_false,reduceIte,forall_const,IntKind.bits,IntKind.signed,eq_self_iff_true,finalOf,resultOf,cellsGood,AC.isCell,senv_mem,lift, lty3,lty4,lty5,lty9,lty22,lty33,lty25,lty34,lty23,lty36,lty40,lty98,lty96,lty93,lty95,lty54,lty38,lty31, lenv_mem, none1, hnt, g0, g2, g4, g7, g14, g15, hE4, hM4, c2, hm0, hm1, q00, q01, t0, t1, h3, h4, h5, k0, k1, Int.toNat_natCast, mksC_len, hbl, k2, hst, Bool.true_or]
                refine hQ1 (q - 1) _ _ _ (by omega) ⟨by simp only [nt_put, hnt], (hA1.trans hA4 (by omega)).cons (j := n + 1) (by omega), by omega, by rw [get_cons, if_neg e2]; exact (hA4.keeps ix (by omega)).trans hxD, by rw [get_cons, if_neg e3]; exact hE4, i + 1, bs.set i false, by omega, by omega, by omega, by omega, ?_⟩
                simp +decide -implicitDefEqProofs only [stp,code_seq,evWanted,evOp,val,absV,evBin,evConv,evBuiltin,cmpInt,vals,partsOf,isAggD,cellsOf,isAggV,Nat.reduceEqDiff,Nat.reduceLT,Nat.reduceBEq,Nat.reduceBNe,reduceCtorEq,if_true,if_false,reduceIte,forall_const,IntKind.bits,IntKind.signed,eq_self_iff_true,finalOf,resultOf,cellsGood,AC.isCell,senv_mem,lift, hnt, g0, g2, g4, g7]
                rw [wrap_succ (by omega)]
                refine ⟨rfl, (is_put hIs (by omega)).congr fun x => ?_⟩
                constructor
                · rintro (⟨rfl, hb⟩ | ⟨hne, r1, r2, r3⟩)
                  · exact ⟨by omega, by omega, hhit.trans hb⟩
                  · exact ⟨r1, by omega, r3⟩
                · rintro ⟨r1, r2, r3⟩
                  by_cases hxk : x = i
                  · subst hxk
                    exact .inl ⟨rfl, hhit.symm.trans r3⟩
                  · exact .inr ⟨hxk, r1, by omega, r3⟩
            · have h5 : True := trivial
              have hst := splice_mks (X := bs) (i := i) (b := false) (by rw [hIs.1]; omega)
              have hhit : spanHit s utf lo hi a i = false := by simp [spanHit, hu, hcu, h3, h4, h5]
              simp +decide -implicitDefEqProofs only [stp,code_seq,evWanted,evOp,val,absV,evBin,evConv,evBuiltin,cmpInt,vals,partsOf,isAggD,cellsOf,isAggV,Nat.reduceEqDiff,Nat.reduceLT,Nat.reduceBEq,Nat.reduceBNe,reduceCtorEq,if_true,if_false,reduceIte,forall_const,IntKind.bits,IntKind.signed,eq_self_iff_true,finalOf,resultOf,cellsGood,AC.isCell,senv_mem,lift, lty3,lty4,lty5,lty9,lty22,lty33,lty25,lty34,lty23,lty36,lty40,lty98,lty96,lty93,lty95,lty54,lty38,lty31, lenv_mem, none1, hnt, g0, g2, g4, g7, g14, g15, hE4, hM4, c2, hm0, hm1, q00, q01, t0, t1, h3, h4, h5, k0, k1, Int.toNat_natCast, mksC_len, hbl, k2, hst, Bool.true_or]
              refine hQ1 (q - 1) _ _ _ (by omega) ⟨by simp only [nt_put, hnt], (hA1.trans hA4 (by omega)).cons (j := n + 1) (by omega), by omega, by rw [get_cons, if_neg e2]; exact (hA4.keeps ix (by omega)).trans hxD, by rw [get_cons, if_neg e3]; exact hE4, i + 1, bs.set i false, by omega, by omega, by omega, by omega, ?_⟩
              simp +decide -implicitDefEqProofs only [stp,code_seq,evWanted,evOp,val,absV,evBin,evConv,evBuiltin,cmpInt,vals,partsOf,isAggD,cellsOf,isAggV,Nat.reduceEqDiff,Nat.reduceLT,Nat.reduceBEq,Nat.reduceBNe,reduceCtorEq,if_true,if_false,reduceIte,forall_const,IntKind.bits,IntKind.signed,eq_self_iff_true,finalOf,resultOf,cellsGood,AC.isCell,senv_mem,lift, hnt, g0, g2, g4, g7]
              rw [wrap_succ (by omega)]
              refine ⟨rfl, (is_put hIs (by omega)).congr fun x => ?_⟩
              constructor
              · rintro (⟨rfl, hb⟩ | ⟨hne, r1, r2, r3⟩)
                · exact ⟨by omega, by omega, hhit.trans hb⟩
                · exact ⟨r1, by omega, r3⟩
              · rintro ⟨r1, r2, r3⟩
                by_cases hxk : x = i
                · subst hxk
                  exact .inl ⟨rfl, hhit.symm.trans r3⟩
                · exact .inr ⟨hxk, r1, by omega, r3⟩
          · have h4 : True := trivial
            have h5 : True := trivial
            have hst := splice_mks (X := bs) (i := i) (b := false) (by rw [hIs.1]; omega)
            have hhit : spanHit s utf lo hi a i = false := by simp [spanHit, hu, hcu, h3, h4, h5]
            simp +decide -implicitDefEqProofs only [stp,code_seq,evWanted,evOp,val,absV,evBin,evConv,evBuiltin,cmpInt,vals,partsOf,isAggD,cellsOf,isAggV,Nat.reduceEqDiff,Nat.reduceLT,Nat.reduceBEq,Nat.reduceBNe,reduceCtorEq,if_true,if_false,reduceIte,forall_const,IntKind.bits,IntKind.signed,eq_self_iff_true,finalOf,resultOf,cellsGood,AC.isCell,senv_mem,lift, lty3,lty4,lty5,lty9,lty22,lty33,lty25,lty34,lty23,lty36,lty40,lty98,lty96,lty93,lty95,lty54,lty38,lty31, lenv_mem, none1, hnt, g0, g2, g4, g7, g14, g15, hE4, hM4, c2, hm0, hm1, q00, q01, t0, t1, h3, h4, h5, k0, k1, Int.toNat_natCast, mksC_len, hbl, k2, hst, Bool.true_or]
            refine hQ1 (q - 1) _ _ _ (by omega) ⟨by simp only [nt_put, hnt], (hA1.trans hA4 (by omega)).cons (j := n + 1) (by omega), by omega, by rw [get_cons, if_neg e2]; exact (hA4.keeps ix (by omega)).trans hxD, by rw [get_cons, if_neg e3]; exact hE4, i + 1, bs.set i false, by omega, by omega, by omega, by omega, ?_⟩
            simp +decide -implicitDefEqProofs only [stp,code_seq,evWanted,evOp,val,absV,evBin,evConv,evBuiltin,cmpInt,vals,partsOf,isAggD,cellsOf,isAggV,Nat.reduceEqDiff,Nat.reduceLT,Nat.reduceBEq,Nat.reduceBNe,reduceCtorEq,if_true,if_false,reduceIte,forall_const,IntKind.bits,IntKind.signed,eq_self_iff_true,finalOf,resultOf,cellsGood,AC.isCell,senv_mem,lift, hnt, g0, g2, g4, g7]
            rw [wrap_succ (by omega)]
            refine ⟨rfl, (is_put hIs (by omega)).congr fun x => ?_⟩
            constructor
            · rintro (⟨rfl, hb⟩ | ⟨hne, r1, r2, r3⟩)
              · exact ⟨by omega, by omega, hhit.trans hb⟩
              · exact ⟨r1, by omega, r3⟩
            · rintro ⟨r1, r2, r3⟩
              by_cases hxk : x = i
              · subst hxk
                exact .inl ⟨rfl, hhit.symm.trans r3⟩
              · exact .inr ⟨hxk, r1, by omega, r3⟩
    · skip
      simp +decide -implicitDefEqProofs only [stp,code_seq,evWanted,evOp,val,absV,evBin,evConv,evBuiltin,cmpInt,vals,partsOf,isAggD,cellsOf,isAggV,Nat.reduceEqDiff,Nat.reduceLT,Nat.reduceBEq,Nat.reduceBNe,reduceCtorEq,if_true,if_false,reduceIte,forall_const,IntKind.bits,IntKind.signed,eq_self_iff_true,finalOf,resultOf,cellsGood,AC.isCell,senv_mem,lift, lty3,lty4,lty5,lty9,lty22,lty33,lty25,lty34,lty23,lty36,lty40,lty98,lty96,lty93,lty95,lty54,lty38,lty31, lenv_mem, none1, hnt, g0, g2, g4, g7, g14, hxD, h1, h2, hwa]
      refine hQ2 _ _ _ _ (by simp) ?_
      simp +decide -implicitDefEqProofs only [stp,code_seq,evWanted,evOp,val,absV,evBin,evConv,evBuiltin,cmpInt,vals,partsOf,isAggD,cellsOf,isAggV,Nat.reduceEqDiff,Nat.reduceLT,Nat.reduceBEq,Nat.reduceBNe,reduceCtorEq,if_true,if_false,reduceIte,forall_const,IntKind.bits,IntKind.signed,eq_self_iff_true,finalOf,resultOf,cellsGood,AC.isCell,senv_mem,lift, lty3,lty4,lty5,lty9,lty22,lty33,lty25,lty34,lty23,lty36,lty40,lty98,lty96,lty93,lty95,lty54,lty38,lty31, lenv_mem, none1, hnt, g0, g2, g4, g7, g14]
      refine hQ _ _ _ _ (.c (.sl (n + 1) (s.length + 1))) (by simp) ?_ ⟨n + 1, _, Nat.le_succ n, rfl, hA1, hMD, hIs.congr fun x => by rw [hden]; constructor <;> (rintro ⟨q1, q2, q3⟩; refine ⟨by omega, by omega, ?_⟩; first | exact q3 | exact ⟨by omega, q3⟩ | exact q3.2)⟩
      simp +decide -implicitDefEqProofs only [stp,code_seq,evWanted,evOp,val,absV,evBin,evConv,evBuiltin,cmpInt,vals,partsOf,isAggD,cellsOf,isAggV,Nat.reduceEqDiff,Nat.reduceLT,Nat.reduceBEq,Nat.reduceBNe,reduceCtorEq,if_true,if_false,reduceIte,forall_const,IntKind.bits,IntKind.signed,eq_self_iff_true,finalOf,resultOf,cellsGood,AC.isCell,senv_mem,lift, Tryz.f69, hnt]
  · have h2 : True := trivial
    simp +decide -implicitDefEqProofs only [stp,code_seq,evWanted,evOp,val,absV,evBin,evConv,evBuiltin,cmpInt,vals,partsOf,isAggD,cellsOf,isAggV,Nat.reduceEqDiff,Nat.reduceLT,Nat.reduceBEq,Nat.reduceBNe,reduceCtorEq,if_true,if_false,reduceIte,forall_const,IntKind.bits,IntKind.signed,eq_self_iff_true,finalOf,resultOf,cellsGood,AC.isCell,senv_mem,lift, lty3,lty4,lty5,lty9,lty22,lty33,lty25,lty34,lty23,lty36,lty40,lty98,lty96,lty93,lty95,lty54,lty38,lty31, lenv_mem, none1, hnt, g0, g2, g4, g7, g14, hxD, h1, h2, hwa]
    refine hQ2 _ _ _ _ (by simp) ?_
    simp +decide -implicitDefEqProofs only [stp,code_seq,evWanted,evOp,val,absV,evBin,evConv,evBuiltin,cmpInt,vals,partsOf,isAggD,cellsOf,isAggV,Nat.reduceEqDiff,Nat.reduceLT,Nat.reduceBEq,Nat.reduceBNe,reduceCtorEq,if_true,if_false,reduceIte,forall_const,IntKind.bits,IntKind.signed,eq_self_iff_true,finalOf,resultOf,cellsGood,AC.isCell,senv_mem,lift, lty3,lty4,lty5,lty9,lty22,lty33,lty25,lty34,lty23,lty36,lty40,lty98,lty96,lty93,lty95,lty54,lty38,lty31, lenv_mem, none1, hnt, g0, g2, g4, g7, g14]
    refine hQ _ _ _ _ (.c (.sl (n + 1) (s.length + 1))) (by simp) ?_ ⟨n + 1, _, Nat.le_succ n, rfl, hA1, hMD, hIs.congr fun x => by rw [hden]; constructor <;> (rintro ⟨q1, q2, q3⟩; refine ⟨by omega, by omega, ?_⟩; first | exact q3 | exact ⟨by omega, q3⟩ | exact q3.2)⟩
    simp +decide -implicitDefEqProofs only [stp,code_seq,evWanted,evOp,val,absV,evBin,evConv,evBuiltin,cmpInt,vals,partsOf,isAggD,cellsOf,isAggV,Nat.reduceEqDiff,Nat.reduceLT,Nat.reduceBEq,Nat.reduceBNe,reduceCtorEq,if_true,if_false,reduceIte,forall_const,IntKind.bits,IntKind.signed,eq_self_iff_true,finalOf,resultOf,cellsGood,AC.isCell,senv_mem,lift, Tryz.f69, hnt]

end Go.Proofs.YtdpielghjaehbaaGreat.Ev
