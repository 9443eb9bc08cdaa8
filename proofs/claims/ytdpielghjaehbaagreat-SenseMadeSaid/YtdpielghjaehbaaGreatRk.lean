/- regletref06: the ends of what stands again and again. -/
import Derived.Test.YtdpielghjaehbaaGreatRi
set_option linter.unusedSectionVars false
set_option linter.unusedSimpArgs false
set_option linter.unusedVariables false
namespace Go.Proofs.YtdpielghjaehbaaGreat.Ev
open Go.RowKit

theorem missing_zero {L : Nat} {S : Nat → Prop} (h : missing L S = 0) {x : Nat} (hx : x ≤ L) : S x := by
  apply Classical.byContradiction
  intro hn
  unfold missing at h
  have hmem : x ∈ (List.range (L + 1)).filter fun p => @decide (¬ S p) (Classical.propDecidable _) := by
    rw [List.mem_filter]
    exact ⟨List.mem_range.2 (by omega), by simpa using hn⟩
  rw [List.eq_nil_of_length_eq_zero h] at hmem
  cases hmem

/-- What comes after so many rounds has come before. -/
theorem pump {F : Nat → Nat → Prop} {a L least : Nat} (hF : ∀ a x, a ≤ L → F a x → x ≤ L) (ha : a ≤ L) : ∀ m, least ≤ m → ∀ x, pow F m (fun y => y = a) x → ∃ m', least ≤ m' ∧ m' ≤ least + L + 1 ∧ pow F m' (fun y => y = a) x := by
  have hle : ∀ m x, pow F m (fun y => y = a) x → x ≤ L := fun m x hx => pow_le hF m (fun y hy => by omega) x hx
  by_cases hc : ∃ i, least ≤ i ∧ i ≤ least + L ∧ ∀ x, pow F (i + 1) (fun y => y = a) x → ∃ m, least ≤ m ∧ m ≤ i ∧ pow F m (fun y => y = a) x
  · obtain ⟨i, h1, h2, h3⟩ := hc
    intro m hm x hx
    obtain ⟨m', h4, h5, h6⟩ := pow_closed h3 h1 m hm x hx
    exact ⟨m', h4, by omega, h6⟩
  · have key : ∀ j, j ≤ L + 1 → missing L (fun x => ∃ m, least ≤ m ∧ m ≤ least + j ∧ pow F m (fun y => y = a) x) + j ≤ L + 1 := by
      intro j
      induction j with
      | zero => intro _; exact missing_le _ _
      | succ j ih =>
        intro hj
        have h1 := ih (by omega)
        have h2 : ¬ ∀ x, pow F (least + j + 1) (fun y => y = a) x → ∃ m, least ≤ m ∧ m ≤ least + j ∧ pow F m (fun y => y = a) x := fun h => hc ⟨least + j, by omega, by omega, h⟩
        obtain ⟨x, hx⟩ := Classical.not_forall.1 h2
        obtain ⟨hx1, hx2⟩ := Classical.not_imp.1 hx
        have h3 := missing_lt (L := L) (S := fun x => ∃ m, least ≤ m ∧ m ≤ least + j ∧ pow F m (fun y => y = a) x) (T := fun x => ∃ m, least ≤ m ∧ m ≤ least + (j + 1) ∧ pow F m (fun y => y = a) x)
          (fun x ⟨m, a1, a2, a3⟩ => ⟨m, a1, by omega, a3⟩) (hle _ _ hx1) ⟨least + j + 1, by omega, by omega, hx1⟩ hx2
        omega
    intro m hm x hx
    have h := key (L + 1) (Nat.le_refl _)
    obtain ⟨m', h1, h2, h3⟩ := missing_zero (L := L) (S := fun x => ∃ m, least ≤ m ∧ m ≤ least + (L + 1) ∧ pow F m (fun y => y = a) x) (by omega) (hle m x hx)
    exact ⟨m', h1, by omega, h3⟩

variable {w0 : World} {Bx : Nat} {v0 : Value} {g : List Ru} {s : List UInt8} {utf : Bool} {NM : List (List UInt8)} {text : List UInt8} {nums : List Int} {least most : Int} {kids : List Ex}

set_option maxRecDepth 20000 in
set_option maxHeartbeats 8000000 in
theorem repR_ok {e : Ex} (ih : EndsR w0 Bx v0 g s utf NM e) (hs0 : s.length < 1000) : EndsR w0 Bx v0 g s utf NM (.mk 3 text nums least most (e :: kids)) := by
  intro B0 cs ix d n T row mk M a hcs hwf hx1 ht ha
  refine callsA_code lenv_ok none1_ok Tryz.func41 rfl (by decide) rfl rfl (by simp) fun hl _ Q hQ => ?_
  have hwf0 := hwf
  have hcs0 := hcs
  simp only [wfEx, Bool.and_eq_true, decide_eq_true_eq] at hwf
  obtain ⟨⟨⟨⟨⟨⟨⟨⟨hw3, hw4⟩, hw7⟩, hnl⟩, htl⟩, hkl⟩, hw8⟩, hw9⟩, hwk⟩ := hwf
  obtain ⟨L, N0, K0, rfl, hx⟩ := six_of hcs
  obtain ⟨L, hLe⟩ : ∃ L, cs.map lift = L := ⟨_, rfl⟩
  rw [hLe] at hx ⊢
  obtain ⟨h6, hg, c0, c1, c2, c3, c4, c5, hT, hK, hN⟩ := hx
  have hixn := (hl ix _ hx1).1
  have hx2 := hx1
  unfold SR at hx2
  have e1 : ¬ n = ix := by omega
  have e2 : ¬ n + 1 = ix := by omega
  have e3 : ¬ n + 1 = n := by omega
  have hw1 : IntKind.i64.wrap ((s.length : Int) + 1) = ((s.length + 1 : Nat) : Int) := wrap_succ (by omega)
  have hp0 : (0 : Int) ≤ ((s.length + 1 : Nat) : Int) := by omega
  have hp1 : ((s.length + 1 : Nat) : Int) ≤ 100000 := by omega
  have ha0 : (0 : Int) ≤ (a : Int) := by omega
  have ha1 : (a : Int) < ((s.length + 1 : Nat) : Int) := by omega
  have ha2 : a + 1 ≤ s.length + 1 := by omega
  have hl0 : 0 ≤ least := by
    simp at hw3
    omega
  have hlm : most = -1 ∨ least ≤ most := by
    simp at hw3
    omega
  rcases hK with ⟨_, h⟩ | ⟨b, cap, rfl, hkid⟩
  · cases h
  obtain ⟨ks, hks, hex⟩ := hkid 0 e rfl
  rw [← memCells_l, Nat.zero_mul] at hks
  have hwe : wfEx NM e = true := wfAll_mem hwk e (List.mem_cons_self ..)
  have hlt0 : (0 : Int) < ((kids.length + 1 : Nat) : Int) := by omega
  obtain ⟨lm, rfl⟩ : ∃ lm : Nat, least = lm := ⟨least.toNat, by omega⟩
  have hfr := fun d n j bs (h1 : SR d ix (lift v0) s utf T) (h2 : Tab d T g.length s.length row mk M) (h3 : get [d] j = some (.cells 4 (mksC bs))) S (h4 : Is s.length bs S) => fromR_ok (B0 := B0) (n := n) ih hex hwe h1 h2 h3 h4 hs0
  generalize ks.map lift = L' at hks hfr
  have hst := splice_mks (X := List.replicate (s.length + 1) false) (i := a) (b := true) (by simp; omega)
  simp +decide -implicitDefEqProofs only [stp,code_seq,evWanted,evOp,val,absV,evBin,evConv,evBuiltin,cmpInt,vals,partsOf,isAggD,cellsOf,isAggV,Nat.reduceEqDiff,Nat.reduceLT,Nat.reduceBEq,Nat.reduceBNe,reduceCtorEq,if_true,if_false,reduceIte,forall_const,IntKind.bits,IntKind.signed,eq_self_iff_true,finalOf,resultOf,cellsGood,AC.isCell,senv_mem,lift, Tryz.f41, lty3,lty4,lty5,lty9,lty22,lty33,lty25,lty34,lty23,lty36,lty40,lty98,lty96,lty93,lty95,lty54,lty38,lty31, lenv_mem, none1, h6, hg, c0, hx2, e1, e2, e3, hw1, hp0, hp1, Int.toNat_natCast, rep_mks, ha0, ha1, ha2, mksC_len, List.length_replicate, hst, Bool.true_or]
  have hI0 := is_put (b := true) (is_rep (L := s.length) (S := fun _ => False) (fun _ => id)) ha
  have e4 : ¬ n + 2 = n := by omega
  have e5 : ¬ n + 2 = n + 1 := by omega
  refine code_loop lenv_ok none1_ok (fun q sl d' n' => sl.nt = 153 ∧ n + 3 ≤ n' ∧ Adds n d d' ∧ get [d'] n = some (.cells 36 L) ∧ get [d'] (n + 1) = some (.cells 4 (mksC (List.replicate (s.length + 1) false))) ∧ ∃ (i j : Nat) (bs : List Bool), i + q = lm ∧ n + 2 ≤ j ∧ sl.get 0 = .c (.ptr ix 0) ∧ sl.get 4 = .c (.ptr n 0) ∧ sl.get 7 = .c (.sl (n + 1) (s.length + 1)) ∧
    sl.get 10 = .c (.sl j (s.length + 1)) ∧ sl.get 11 = .c (.int .i64 i) ∧ get [d'] j = some (.cells 4 (mksC bs)) ∧ Is s.length bs (pow (den s utf (kn g M) e) i fun y => y = a)) lm ?_ ?_
  · refine ⟨by simp only [nt_put], Nat.le_refl _, ((((Adds.refl n d).cons (Nat.le_refl _)).cons (by omega)).cons (by omega)).cons (by omega), by simp only [get_cons, e3, e4, if_false, if_true], by simp only [get_cons, e5, if_false, if_true], 0, n + 2, (List.replicate (s.length + 1) false).set a true, by omega, Nat.le_refl _, ?_⟩
    simp +decide -implicitDefEqProofs only [stp,code_seq,evWanted,evOp,val,absV,evBin,evConv,evBuiltin,cmpInt,vals,partsOf,isAggD,cellsOf,isAggV,Nat.reduceEqDiff,Nat.reduceLT,Nat.reduceBEq,Nat.reduceBNe,reduceCtorEq,if_true,if_false,reduceIte,forall_const,IntKind.bits,IntKind.signed,eq_self_iff_true,finalOf,resultOf,cellsGood,AC.isCell,senv_mem,lift]
    refine ⟨rfl, hI0.congr fun y => ?_⟩
    simp [pow]
  rintro q sl d1 n1 ⟨hnt, hn1, hA1, gn, hmm, i, j, bs, hiq, hj, g0, g4, g7, g10, g11, hm, hI⟩ hl1 hs1 Q' hQ1 hQ2
  by_cases hi : (i : Int) < (lm : Int)
  · simp +decide -implicitDefEqProofs only [stp,code_seq,evWanted,evOp,val,absV,evBin,evConv,evBuiltin,cmpInt,vals,partsOf,isAggD,cellsOf,isAggV,Nat.reduceEqDiff,Nat.reduceLT,Nat.reduceBEq,Nat.reduceBNe,reduceCtorEq,if_true,if_false,reduceIte,forall_const,IntKind.bits,IntKind.signed,eq_self_iff_true,finalOf,resultOf,cellsGood,AC.isCell,senv_mem,lift, lty3,lty4,lty5,lty9,lty22,lty33,lty25,lty34,lty23,lty36,lty40,lty98,lty96,lty93,lty95,lty54,lty38,lty31, lenv_mem, none1, hnt, g0, g4, g7, g10, g11, gn, c3, c5, hi, hlt0, Int.toNat_zero, Nat.zero_mul, hks]
    refine call_mono (hfr d1 n1 j bs (hx1.keep hl hA1.keeps) (ht.keep hl hA1.keeps) hm _ hI) fun v d2 n2 hR hl2 hle2 hok2 => ?_
    obtain ⟨j2, bs2, hj2, rfl, hA2, hm2, hI2⟩ := hR
    simp +decide -implicitDefEqProofs only [stp,code_seq,evWanted,evOp,val,absV,evBin,evConv,evBuiltin,cmpInt,vals,partsOf,isAggD,cellsOf,isAggV,Nat.reduceEqDiff,Nat.reduceLT,Nat.reduceBEq,Nat.reduceBNe,reduceCtorEq,if_true,if_false,reduceIte,forall_const,IntKind.bits,IntKind.signed,eq_self_iff_true,finalOf,resultOf,cellsGood,AC.isCell,senv_mem,lift, lty3,lty4,lty5,lty9,lty22,lty33,lty25,lty34,lty23,lty36,lty40,lty98,lty96,lty93,lty95,lty54,lty38,lty31, lenv_mem, none1, hnt, g0, g4, g7, g10, g11]
    refine hQ1 (q - 1) _ _ _ (by omega) ⟨by simp only [nt_put, hnt], by omega, hA1.trans hA2 (by omega), (hA2.keeps n (by omega)).trans gn, (hA2.keeps (n + 1) (by omega)).trans hmm, i + 1, j2, bs2, by omega, by omega, ?_⟩
    simp +decide -implicitDefEqProofs only [stp,code_seq,evWanted,evOp,val,absV,evBin,evConv,evBuiltin,cmpInt,vals,partsOf,isAggD,cellsOf,isAggV,Nat.reduceEqDiff,Nat.reduceLT,Nat.reduceBEq,Nat.reduceBNe,reduceCtorEq,if_true,if_false,reduceIte,forall_const,IntKind.bits,IntKind.signed,eq_self_iff_true,finalOf,resultOf,cellsGood,AC.isCell,senv_mem,lift, hnt, g0, g4, g7]
    rw [wrap_succ (by omega)]
    exact ⟨rfl, hm2, hI2⟩
  · have hil : i = lm := by omega
    subst hil
    simp +decide -implicitDefEqProofs only [stp,code_seq,evWanted,evOp,val,absV,evBin,evConv,evBuiltin,cmpInt,vals,partsOf,isAggD,cellsOf,isAggV,Nat.reduceEqDiff,Nat.reduceLT,Nat.reduceBEq,Nat.reduceBNe,reduceCtorEq,if_true,if_false,reduceIte,forall_const,IntKind.bits,IntKind.signed,eq_self_iff_true,finalOf,resultOf,cellsGood,AC.isCell,senv_mem,lift, lty3,lty4,lty5,lty9,lty22,lty33,lty25,lty34,lty23,lty36,lty40,lty98,lty96,lty93,lty95,lty54,lty38,lty31, lenv_mem, none1, hnt, g0, g4, g7, g10, g11, gn, c3, hi]
    refine hQ2 _ _ _ _ (by simp) ?_
    simp +decide -implicitDefEqProofs only [stp,code_seq,evWanted,evOp,val,absV,evBin,evConv,evBuiltin,cmpInt,vals,partsOf,isAggD,cellsOf,isAggV,Nat.reduceEqDiff,Nat.reduceLT,Nat.reduceBEq,Nat.reduceBNe,reduceCtorEq,if_true,if_false,reduceIte,forall_const,IntKind.bits,IntKind.signed,eq_self_iff_true,finalOf,resultOf,cellsGood,AC.isCell,senv_mem,lift, lty3,lty4,lty5,lty9,lty22,lty33,lty25,lty34,lty23,lty36,lty40,lty98,lty96,lty93,lty95,lty54,lty38,lty31, lenv_mem, none1, hnt, g0, g4, g7, g10, g11]
    have hIm0 := is_rep (L := s.length) (S := fun _ => False) (fun _ => id)
    refine call_mono (join_okL hmm hm (by omega) hIm0.1 hI.1 (by omega)) fun v d3 n3 hR hl3 hle3 hok3 => ?_
    obtain ⟨rfl, rfl, hids, hm3⟩ := hR
    have gn3 := (ids_other hids (show n ≠ n + 1 by omega)).trans gn
    simp +decide -implicitDefEqProofs only [stp,code_seq,evWanted,evOp,val,absV,evBin,evConv,evBuiltin,cmpInt,vals,partsOf,isAggD,cellsOf,isAggV,Nat.reduceEqDiff,Nat.reduceLT,Nat.reduceBEq,Nat.reduceBNe,reduceCtorEq,if_true,if_false,reduceIte,forall_const,IntKind.bits,IntKind.signed,eq_self_iff_true,finalOf,resultOf,cellsGood,AC.isCell,senv_mem,lift, lty3,lty4,lty5,lty9,lty22,lty33,lty25,lty34,lty23,lty36,lty40,lty98,lty96,lty93,lty95,lty54,lty38,lty31, lenv_mem, none1, hnt, g0, g4, g7, g10, g11, gn3, c3]
    refine code_loop lenv_ok none1_ok (fun q sl d' n' => sl.nt = 153 ∧ n + 3 ≤ n' ∧ Adds n d d' ∧ get [d'] n = some (.cells 36 L) ∧ ∃ (k j : Nat) (bs bm : List Bool), k + q = i + s.length + 1 ∧ n + 2 ≤ j ∧ i ≤ k ∧ (most = -1 ∨ (k : Int) ≤ most) ∧ sl.get 0 = .c (.ptr ix 0) ∧ sl.get 4 = .c (.ptr n 0) ∧ sl.get 7 = .c (.sl (n + 1) (s.length + 1)) ∧
      sl.get 10 = .c (.sl j (s.length + 1)) ∧ sl.get 12 = .c (.int .i64 k) ∧ get [d'] j = some (.cells 4 (mksC bs)) ∧ Is s.length bs (pow (den s utf (kn g M) e) k fun y => y = a) ∧ get [d'] (n + 1) = some (.cells 4 (mksC bm)) ∧ Is s.length bm (fun x => ∃ m, i ≤ m ∧ m ≤ k ∧ pow (den s utf (kn g M) e) m (fun y => y = a) x)) (s.length + 1) ?_ ?_
    · refine ⟨by simp only [nt_put, hnt], by omega, hA1.trans (ids_adds hids (show n ≤ n + 1 by omega)) (Nat.le_refl _), gn3, i, j, bs, orL (List.replicate (s.length + 1) false) bs, by omega, by omega, Nat.le_refl _, hlm, ?_⟩
      simp +decide -implicitDefEqProofs only [stp,code_seq,evWanted,evOp,val,absV,evBin,evConv,evBuiltin,cmpInt,vals,partsOf,isAggD,cellsOf,isAggV,Nat.reduceEqDiff,Nat.reduceLT,Nat.reduceBEq,Nat.reduceBNe,reduceCtorEq,if_true,if_false,reduceIte,forall_const,IntKind.bits,IntKind.signed,eq_self_iff_true,finalOf,resultOf,cellsGood,AC.isCell,senv_mem,lift, hnt, g0, g4, g7, g10]
      rw [ids_other hids (show j ≠ n + 1 by omega)]
      refine ⟨hm, hI, hm3, (is_or hIm0 hI).congr fun x => ?_⟩
      constructor
      · rintro (h | h)
        · exact h.elim
        · exact ⟨i, Nat.le_refl _, Nat.le_refl _, h⟩
      · rintro ⟨m, r1, r2, r3⟩
        exact .inr (by rw [show i = m by omega]; exact r3)
    clear hnt g0 g4 g7 g10 g11 gn hmm hm hI hm3 hids gn3 hi hiq hj hA1 hn1 hl1 hs1 hQ1 hQ2 Q' bs j q sl hl3 hok3 hIm0
    obtain ⟨lm, hlme⟩ : ∃ lm, i = lm := ⟨_, rfl⟩
    subst hlme
    have hdle : ∀ b x, b ≤ s.length → den s utf (kn g M) e b x → x ≤ s.length := fun b x hb => den_le2 (fun nm a x ⟨k, r1, r2, r3⟩ ha => by
      have := (List.getElem?_eq_some_iff.1 r3).1
      rw [(ht.mks k a r2 ha).2] at this
      omega) e b x hb
    have hpump := pump (least := i) hdle ha
    rintro q sl d1 n1 ⟨hnt, hn1, hA1, gn, k, j, bs, bm, hkq, hj, hik, hkm, g0, g4, g7, g10, g12, hm, hI, hmm, hIm⟩ hl1 hs1 Q' hQ1 hQ2
    have hx4 := (hA1.keeps ix hixn).trans hx2
    have hwl : IntKind.i64.wrap ((i : Int) + (s.length : Int)) = ((i + s.length : Nat) : Int) := by rw [wrap_id (by omega) (by omega)]; rfl
    by_cases h1 : most < 0
    · have h2 : True := trivial
      by_cases h3 : (k : Int) ≤ ((i + s.length : Nat) : Int)
      · skip
        simp +decide -implicitDefEqProofs only [stp,code_seq,evWanted,evOp,val,absV,evBin,evConv,evBuiltin,cmpInt,vals,partsOf,isAggD,cellsOf,isAggV,Nat.reduceEqDiff,Nat.reduceLT,Nat.reduceBEq,Nat.reduceBNe,reduceCtorEq,if_true,if_false,reduceIte,forall_const,IntKind.bits,IntKind.signed,eq_self_iff_true,finalOf,resultOf,cellsGood,AC.isCell,senv_mem,lift, lty3,lty4,lty5,lty9,lty22,lty33,lty25,lty34,lty23,lty36,lty40,lty98,lty96,lty93,lty95,lty54,lty38,lty31, lenv_mem, none1, hnt, g0, g4, g7, g10, g12]
        apply code_drawn lenv_ok none1_ok (by decide) _ (by rfl)
        · simp +decide -implicitDefEqProofs only [stp,code_seq,evWanted,evOp,val,absV,evBin,evConv,evBuiltin,cmpInt,vals,partsOf,isAggD,cellsOf,isAggV,Nat.reduceEqDiff,Nat.reduceLT,Nat.reduceBEq,Nat.reduceBNe,reduceCtorEq,if_true,if_false,reduceIte,forall_const,IntKind.bits,IntKind.signed,eq_self_iff_true,finalOf,resultOf,cellsGood,AC.isCell,senv_mem,lift, flat,d_nil,d_cons,d_true,d_false,d_some,d_some1,slotsAt_get,slotsAt_nt,get_mk_cons,get_mk,wrs_nil,wrs_cons,wrs_none,get_heapAt,get_seen_nil,get_seen_cons,get_seen_one,List.cons_append,List.nil_append,Nat.reduceSub,Nat.reduceAdd,Nat.add_one_sub_one,bitOf, lty3,lty4,lty5,lty9,lty22,lty33,lty25,lty34,lty23,lty36,lty40,lty98,lty96,lty93,lty95,lty54,lty38,lty31, lenv_mem, none1, hnt, g0, g4, g7, g10, g12, gn, c3, c4, hx4, hwl, h1, h2, h3]
          rfl
        · rfl
        · skip
          simp +decide -implicitDefEqProofs only [stp,code_seq,evWanted,evOp,val,absV,evBin,evConv,evBuiltin,cmpInt,vals,partsOf,isAggD,cellsOf,isAggV,Nat.reduceEqDiff,Nat.reduceLT,Nat.reduceBEq,Nat.reduceBNe,reduceCtorEq,if_true,if_false,reduceIte,forall_const,IntKind.bits,IntKind.signed,eq_self_iff_true,finalOf,resultOf,cellsGood,AC.isCell,senv_mem,lift, flat,d_nil,d_cons,d_true,d_false,d_some,d_some1,slotsAt_get,slotsAt_nt,get_mk_cons,get_mk,wrs_nil,wrs_cons,wrs_none,get_heapAt,get_seen_nil,get_seen_cons,get_seen_one,List.cons_append,List.nil_append,Nat.reduceSub,Nat.reduceAdd,Nat.add_one_sub_one,bitOf, lty3,lty4,lty5,lty9,lty22,lty33,lty25,lty34,lty23,lty36,lty40,lty98,lty96,lty93,lty95,lty54,lty38,lty31, lenv_mem, none1, hnt, g0, g4, g7, g10, g12, gn, c5, hlt0, Int.toNat_zero, Nat.zero_mul, hks]
          refine call_mono (hfr d1 n1 j bs (hx1.keep hl hA1.keeps) (ht.keep hl hA1.keeps) hm _ hI) fun v d2 n2 hR hl2 hle2 hok2 => ?_
          obtain ⟨j2, bs2, hj2, rfl, hA2, hm2, hI2⟩ := hR
          have hmm2 := (hA2.keeps (n + 1) (by omega)).trans hmm
          simp +decide -implicitDefEqProofs only [stp,code_seq,evWanted,evOp,val,absV,evBin,evConv,evBuiltin,cmpInt,vals,partsOf,isAggD,cellsOf,isAggV,Nat.reduceEqDiff,Nat.reduceLT,Nat.reduceBEq,Nat.reduceBNe,reduceCtorEq,if_true,if_false,reduceIte,forall_const,IntKind.bits,IntKind.signed,eq_self_iff_true,finalOf,resultOf,cellsGood,AC.isCell,senv_mem,lift, flat,d_nil,d_cons,d_true,d_false,d_some,d_some1,slotsAt_get,slotsAt_nt,get_mk_cons,get_mk,wrs_nil,wrs_cons,wrs_none,get_heapAt,get_seen_nil,get_seen_cons,get_seen_one,List.cons_append,List.nil_append,Nat.reduceSub,Nat.reduceAdd,Nat.add_one_sub_one,bitOf, lty3,lty4,lty5,lty9,lty22,lty33,lty25,lty34,lty23,lty36,lty40,lty98,lty96,lty93,lty95,lty54,lty38,lty31, lenv_mem, none1, hnt, g0, g4, g7, g10, g12]
          refine call_mono (join_okL hmm2 hm2 (by omega) hIm.1 hI2.1 (by omega)) fun v d3 n3 hR hl3 hle3 hok3 => ?_
          obtain ⟨rfl, rfl, hids, hm3⟩ := hR
          simp +decide -implicitDefEqProofs only [stp,code_seq,evWanted,evOp,val,absV,evBin,evConv,evBuiltin,cmpInt,vals,partsOf,isAggD,cellsOf,isAggV,Nat.reduceEqDiff,Nat.reduceLT,Nat.reduceBEq,Nat.reduceBNe,reduceCtorEq,if_true,if_false,reduceIte,forall_const,IntKind.bits,IntKind.signed,eq_self_iff_true,finalOf,resultOf,cellsGood,AC.isCell,senv_mem,lift, flat,d_nil,d_cons,d_true,d_false,d_some,d_some1,slotsAt_get,slotsAt_nt,get_mk_cons,get_mk,wrs_nil,wrs_cons,wrs_none,get_heapAt,get_seen_nil,get_seen_cons,get_seen_one,List.cons_append,List.nil_append,Nat.reduceSub,Nat.reduceAdd,Nat.add_one_sub_one,bitOf, lty3,lty4,lty5,lty9,lty22,lty33,lty25,lty34,lty23,lty36,lty40,lty98,lty96,lty93,lty95,lty54,lty38,lty31, lenv_mem, none1, hnt, g0, g4, g7, g12]
          refine hQ1 (q - 1) _ _ _ (by omega) ⟨by simp only [nt_put, hnt], by omega, (hA1.trans hA2 (by omega)).trans (ids_adds hids (show n ≤ n + 1 by omega)) (Nat.le_refl _), ?_, k + 1, j2, bs2, orL bm bs2, by omega, by omega, by omega, by omega, ?_⟩
          · rw [ids_other hids (by omega), hA2.keeps n (by omega)]; exact gn
          simp +decide -implicitDefEqProofs only [stp,code_seq,evWanted,evOp,val,absV,evBin,evConv,evBuiltin,cmpInt,vals,partsOf,isAggD,cellsOf,isAggV,Nat.reduceEqDiff,Nat.reduceLT,Nat.reduceBEq,Nat.reduceBNe,reduceCtorEq,if_true,if_false,reduceIte,forall_const,IntKind.bits,IntKind.signed,eq_self_iff_true,finalOf,resultOf,cellsGood,AC.isCell,senv_mem,lift, flat,d_nil,d_cons,d_true,d_false,d_some,d_some1,slotsAt_get,slotsAt_nt,get_mk_cons,get_mk,wrs_nil,wrs_cons,wrs_none,get_heapAt,get_seen_nil,get_seen_cons,get_seen_one,List.cons_append,List.nil_append,Nat.reduceSub,Nat.reduceAdd,Nat.add_one_sub_one,bitOf, hnt, g0, g4, g7]
          rw [wrap_succ (by omega), ids_other hids (show j2 ≠ n + 1 by omega)]
          refine ⟨rfl, hm2, hI2, hm3, (is_or hIm hI2).congr fun x => ?_⟩
          constructor
          · rintro (⟨m, r1, r2, r3⟩ | h)
            · exact ⟨m, r1, by omega, r3⟩
            · exact ⟨k + 1, by omega, Nat.le_refl _, h⟩
          · rintro ⟨m, r1, r2, r3⟩
            by_cases hmi : m = k + 1
            · subst hmi; exact .inr r3
            · exact .inl ⟨m, r1, by omega, r3⟩
      · skip
        simp +decide -implicitDefEqProofs only [stp,code_seq,evWanted,evOp,val,absV,evBin,evConv,evBuiltin,cmpInt,vals,partsOf,isAggD,cellsOf,isAggV,Nat.reduceEqDiff,Nat.reduceLT,Nat.reduceBEq,Nat.reduceBNe,reduceCtorEq,if_true,if_false,reduceIte,forall_const,IntKind.bits,IntKind.signed,eq_self_iff_true,finalOf,resultOf,cellsGood,AC.isCell,senv_mem,lift, lty3,lty4,lty5,lty9,lty22,lty33,lty25,lty34,lty23,lty36,lty40,lty98,lty96,lty93,lty95,lty54,lty38,lty31, lenv_mem, none1, hnt, g0, g4, g7, g10, g12]
        apply code_drawn lenv_ok none1_ok (by decide) _ (by rfl)
        · simp +decide -implicitDefEqProofs only [stp,code_seq,evWanted,evOp,val,absV,evBin,evConv,evBuiltin,cmpInt,vals,partsOf,isAggD,cellsOf,isAggV,Nat.reduceEqDiff,Nat.reduceLT,Nat.reduceBEq,Nat.reduceBNe,reduceCtorEq,if_true,if_false,reduceIte,forall_const,IntKind.bits,IntKind.signed,eq_self_iff_true,finalOf,resultOf,cellsGood,AC.isCell,senv_mem,lift, flat,d_nil,d_cons,d_true,d_false,d_some,d_some1,slotsAt_get,slotsAt_nt,get_mk_cons,get_mk,wrs_nil,wrs_cons,wrs_none,get_heapAt,get_seen_nil,get_seen_cons,get_seen_one,List.cons_append,List.nil_append,Nat.reduceSub,Nat.reduceAdd,Nat.add_one_sub_one,bitOf, lty3,lty4,lty5,lty9,lty22,lty33,lty25,lty34,lty23,lty36,lty40,lty98,lty96,lty93,lty95,lty54,lty38,lty31, lenv_mem, none1, hnt, g0, g4, g7, g10, g12, gn, c3, c4, hx4, hwl, h1, h2, h3]
          rfl
        · rfl
        · skip
          simp +decide -implicitDefEqProofs only [stp,code_seq,evWanted,evOp,val,absV,evBin,evConv,evBuiltin,cmpInt,vals,partsOf,isAggD,cellsOf,isAggV,Nat.reduceEqDiff,Nat.reduceLT,Nat.reduceBEq,Nat.reduceBNe,reduceCtorEq,if_true,if_false,reduceIte,forall_const,IntKind.bits,IntKind.signed,eq_self_iff_true,finalOf,resultOf,cellsGood,AC.isCell,senv_mem,lift, flat,d_nil,d_cons,d_true,d_false,d_some,d_some1,slotsAt_get,slotsAt_nt,get_mk_cons,get_mk,wrs_nil,wrs_cons,wrs_none,get_heapAt,get_seen_nil,get_seen_cons,get_seen_one,List.cons_append,List.nil_append,Nat.reduceSub,Nat.reduceAdd,Nat.add_one_sub_one,bitOf, lty3,lty4,lty5,lty9,lty22,lty33,lty25,lty34,lty23,lty36,lty40,lty98,lty96,lty93,lty95,lty54,lty38,lty31, lenv_mem, none1, hnt, g0, g4, g7, g10, g12]
          refine hQ2 _ _ _ _ (by simp) ?_
          simp +decide -implicitDefEqProofs only [stp,code_seq,evWanted,evOp,val,absV,evBin,evConv,evBuiltin,cmpInt,vals,partsOf,isAggD,cellsOf,isAggV,Nat.reduceEqDiff,Nat.reduceLT,Nat.reduceBEq,Nat.reduceBNe,reduceCtorEq,if_true,if_false,reduceIte,forall_const,IntKind.bits,IntKind.signed,eq_self_iff_true,finalOf,resultOf,cellsGood,AC.isCell,senv_mem,lift, flat,d_nil,d_cons,d_true,d_false,d_some,d_some1,slotsAt_get,slotsAt_nt,get_mk_cons,get_mk,wrs_nil,wrs_cons,wrs_none,get_heapAt,get_seen_nil,get_seen_cons,get_seen_one,List.cons_append,List.nil_append,Nat.reduceSub,Nat.reduceAdd,Nat.add_one_sub_one,bitOf, lty3,lty4,lty5,lty9,lty22,lty33,lty25,lty34,lty23,lty36,lty40,lty98,lty96,lty93,lty95,lty54,lty38,lty31, lenv_mem, none1, hnt, g0, g4, g7]
          refine hQ _ _ _ _ (.c (.sl (n + 1) (s.length + 1))) (by simp) ?_ ⟨n + 1, bm, Nat.le_succ n, rfl, hA1, hmm, hIm.congr fun x => ?_⟩
          · simp +decide -implicitDefEqProofs only [stp,code_seq,evWanted,evOp,val,absV,evBin,evConv,evBuiltin,cmpInt,vals,partsOf,isAggD,cellsOf,isAggV,Nat.reduceEqDiff,Nat.reduceLT,Nat.reduceBEq,Nat.reduceBNe,reduceCtorEq,if_true,if_false,reduceIte,forall_const,IntKind.bits,IntKind.signed,eq_self_iff_true,finalOf,resultOf,cellsGood,AC.isCell,senv_mem,lift, flat,d_nil,d_cons,d_true,d_false,d_some,d_some1,slotsAt_get,slotsAt_nt,get_mk_cons,get_mk,wrs_nil,wrs_cons,wrs_none,get_heapAt,get_seen_nil,get_seen_cons,get_seen_one,List.cons_append,List.nil_append,Nat.reduceSub,Nat.reduceAdd,Nat.add_one_sub_one,bitOf, Tryz.f41, hnt]
          · rw [den_rep]
            constructor
            · rintro ⟨m, r1, r2, r3⟩
              exact ⟨m, by omega, by omega, r3⟩
            · rintro ⟨m, r1, r2, r3⟩
              (obtain ⟨m', w1, w2, w3⟩ := hpump m (by omega) x r3; exact ⟨m', w1, by omega, w3⟩)
    · by_cases h2 : (k : Int) < most
      · by_cases h3 : (k : Int) ≤ ((i + s.length : Nat) : Int)
        · skip
          simp +decide -implicitDefEqProofs only [stp,code_seq,evWanted,evOp,val,absV,evBin,evConv,evBuiltin,cmpInt,vals,partsOf,isAggD,cellsOf,isAggV,Nat.reduceEqDiff,Nat.reduceLT,Nat.reduceBEq,Nat.reduceBNe,reduceCtorEq,if_true,if_false,reduceIte,forall_const,IntKind.bits,IntKind.signed,eq_self_iff_true,finalOf,resultOf,cellsGood,AC.isCell,senv_mem,lift, lty3,lty4,lty5,lty9,lty22,lty33,lty25,lty34,lty23,lty36,lty40,lty98,lty96,lty93,lty95,lty54,lty38,lty31, lenv_mem, none1, hnt, g0, g4, g7, g10, g12]
          apply code_drawn lenv_ok none1_ok (by decide) _ (by rfl)
          · simp +decide -implicitDefEqProofs only [stp,code_seq,evWanted,evOp,val,absV,evBin,evConv,evBuiltin,cmpInt,vals,partsOf,isAggD,cellsOf,isAggV,Nat.reduceEqDiff,Nat.reduceLT,Nat.reduceBEq,Nat.reduceBNe,reduceCtorEq,if_true,if_false,reduceIte,forall_const,IntKind.bits,IntKind.signed,eq_self_iff_true,finalOf,resultOf,cellsGood,AC.isCell,senv_mem,lift, flat,d_nil,d_cons,d_true,d_false,d_some,d_some1,slotsAt_get,slotsAt_nt,get_mk_cons,get_mk,wrs_nil,wrs_cons,wrs_none,get_heapAt,get_seen_nil,get_seen_cons,get_seen_one,List.cons_append,List.nil_append,Nat.reduceSub,Nat.reduceAdd,Nat.add_one_sub_one,bitOf, lty3,lty4,lty5,lty9,lty22,lty33,lty25,lty34,lty23,lty36,lty40,lty98,lty96,lty93,lty95,lty54,lty38,lty31, lenv_mem, none1, hnt, g0, g4, g7, g10, g12, gn, c3, c4, hx4, hwl, h1, h2, h3]
            rfl
          · rfl
          · skip
            simp +decide -implicitDefEqProofs only [stp,code_seq,evWanted,evOp,val,absV,evBin,evConv,evBuiltin,cmpInt,vals,partsOf,isAggD,cellsOf,isAggV,Nat.reduceEqDiff,Nat.reduceLT,Nat.reduceBEq,Nat.reduceBNe,reduceCtorEq,if_true,if_false,reduceIte,forall_const,IntKind.bits,IntKind.signed,eq_self_iff_true,finalOf,resultOf,cellsGood,AC.isCell,senv_mem,lift, flat,d_nil,d_cons,d_true,d_false,d_some,d_some1,slotsAt_get,slotsAt_nt,get_mk_cons,get_mk,wrs_nil,wrs_cons,wrs_none,get_heapAt,get_seen_nil,get_seen_cons,get_seen_one,List.cons_append,List.nil_append,Nat.reduceSub,Nat.reduceAdd,Nat.add_one_sub_one,bitOf, lty3,lty4,lty5,lty9,lty22,lty33,lty25,lty34,lty23,lty36,lty40,lty98,lty96,lty93,lty95,lty54,lty38,lty31, lenv_mem, none1, hnt, g0, g4, g7, g10, g12, gn, c5, hlt0, Int.toNat_zero, Nat.zero_mul, hks]
            refine call_mono (hfr d1 n1 j bs (hx1.keep hl hA1.keeps) (ht.keep hl hA1.keeps) hm _ hI) fun v d2 n2 hR hl2 hle2 hok2 => ?_
            obtain ⟨j2, bs2, hj2, rfl, hA2, hm2, hI2⟩ := hR
            have hmm2 := (hA2.keeps (n + 1) (by omega)).trans hmm
            simp +decide -implicitDefEqProofs only [stp,code_seq,evWanted,evOp,val,absV,evBin,evConv,evBuiltin,cmpInt,vals,partsOf,isAggD,cellsOf,isAggV,Nat.reduceEqDiff,Nat.reduceLT,Nat.reduceBEq,Nat.reduceBNe,reduceCtorEq,if_true,if_false,reduceIte,forall_const,IntKind.bits,IntKind.signed,eq_self_iff_true,finalOf,resultOf,cellsGood,AC.isCell,senv_mem,lift, flat,d_nil,d_cons,d_true,d_false,d_some,d_some1,slotsAt_get,slotsAt_nt,get_mk_cons,get_mk,wrs_nil,wrs_cons,wrs_none,get_heapAt,get_seen_nil,get_seen_cons,get_seen_one,List.cons_append,List.nil_append,Nat.reduceSub,Nat.reduceAdd,Nat.add_one_sub_one,bitOf, lty3,lty4,lty5,lty9,lty22,lty33,lty25,lty34,lty23,lty36,lty40,lty98,lty96,lty93,lty95,lty54,lty38,lty31, lenv_mem, none1, hnt, g0, g4, g7, g10, g12]
            refine call_mono (join_okL hmm2 hm2 (by omega) hIm.1 hI2.1 (by omega)) fun v d3 n3 hR hl3 hle3 hok3 => ?_
            obtain ⟨rfl, rfl, hids, hm3⟩ := hR
            simp +decide -implicitDefEqProofs only [stp,code_seq,evWanted,evOp,val,absV,evBin,evConv,evBuiltin,cmpInt,vals,partsOf,isAggD,cellsOf,isAggV,Nat.reduceEqDiff,Nat.reduceLT,Nat.reduceBEq,Nat.reduceBNe,reduceCtorEq,if_true,if_false,reduceIte,forall_const,IntKind.bits,IntKind.signed,eq_self_iff_true,finalOf,resultOf,cellsGood,AC.isCell,senv_mem,lift, flat,d_nil,d_cons,d_true,d_false,d_some,d_some1,slotsAt_get,slotsAt_nt,get_mk_cons,get_mk,wrs_nil,wrs_cons,wrs_none,get_heapAt,get_seen_nil,get_seen_cons,get_seen_one,List.cons_append,List.nil_append,Nat.reduceSub,Nat.reduceAdd,Nat.add_one_sub_one,bitOf, lty3,lty4,lty5,lty9,lty22,lty33,lty25,lty34,lty23,lty36,lty40,lty98,lty96,lty93,lty95,lty54,lty38,lty31, lenv_mem, none1, hnt, g0, g4, g7, g12]
            refine hQ1 (q - 1) _ _ _ (by omega) ⟨by simp only [nt_put, hnt], by omega, (hA1.trans hA2 (by omega)).trans (ids_adds hids (show n ≤ n + 1 by omega)) (Nat.le_refl _), ?_, k + 1, j2, bs2, orL bm bs2, by omega, by omega, by omega, by omega, ?_⟩
            · rw [ids_other hids (by omega), hA2.keeps n (by omega)]; exact gn
            simp +decide -implicitDefEqProofs only [stp,code_seq,evWanted,evOp,val,absV,evBin,evConv,evBuiltin,cmpInt,vals,partsOf,isAggD,cellsOf,isAggV,Nat.reduceEqDiff,Nat.reduceLT,Nat.reduceBEq,Nat.reduceBNe,reduceCtorEq,if_true,if_false,reduceIte,forall_const,IntKind.bits,IntKind.signed,eq_self_iff_true,finalOf,resultOf,cellsGood,AC.isCell,senv_mem,lift, flat,d_nil,d_cons,d_true,d_false,d_some,d_some1,slotsAt_get,slotsAt_nt,get_mk_cons,get_mk,wrs_nil,wrs_cons,wrs_none,get_heapAt,get_seen_nil,get_seen_cons,get_seen_one,List.cons_append,List.nil_append,Nat.reduceSub,Nat.reduceAdd,Nat.add_one_sub_one,bitOf, hnt, g0, g4, g7]
            rw [wrap_succ (by omega), ids_other hids (show j2 ≠ n + 1 by omega)]
            refine ⟨rfl, hm2, hI2, hm3, (is_or hIm hI2).congr fun x => ?_⟩
            constructor
            · rintro (⟨m, r1, r2, r3⟩ | h)
              · exact ⟨m, r1, by omega, r3⟩
              · exact ⟨k + 1, by omega, Nat.le_refl _, h⟩
            · rintro ⟨m, r1, r2, r3⟩
              by_cases hmi : m = k + 1
              · subst hmi; exact .inr r3
              · exact .inl ⟨m, r1, by omega, r3⟩
        · skip
          simp +decide -implicitDefEqProofs only [stp,code_seq,evWanted,evOp,val,absV,evBin,evConv,evBuiltin,cmpInt,vals,partsOf,isAggD,cellsOf,isAggV,Nat.reduceEqDiff,Nat.reduceLT,Nat.reduceBEq,Nat.reduceBNe,reduceCtorEq,if_true,if_false,reduceIte,forall_const,IntKind.bits,IntKind.signed,eq_self_iff_true,finalOf,resultOf,cellsGood,AC.isCell,senv_mem,lift, lty3,lty4,lty5,lty9,lty22,lty33,lty25,lty34,lty23,lty36,lty40,lty98,lty96,lty93,lty95,lty54,lty38,lty31, lenv_mem, none1, hnt, g0, g4, g7, g10, g12]
          apply code_drawn lenv_ok none1_ok (by decide) _ (by rfl)
          · simp +decide -implicitDefEqProofs only [stp,code_seq,evWanted,evOp,val,absV,evBin,evConv,evBuiltin,cmpInt,vals,partsOf,isAggD,cellsOf,isAggV,Nat.reduceEqDiff,Nat.reduceLT,Nat.reduceBEq,Nat.reduceBNe,reduceCtorEq,if_true,if_false,reduceIte,forall_const,IntKind.bits,IntKind.signed,eq_self_iff_true,finalOf,resultOf,cellsGood,AC.isCell,senv_mem,lift, flat,d_nil,d_cons,d_true,d_false,d_some,d_some1,slotsAt_get,slotsAt_nt,get_mk_cons,get_mk,wrs_nil,wrs_cons,wrs_none,get_heapAt,get_seen_nil,get_seen_cons,get_seen_one,List.cons_append,List.nil_append,Nat.reduceSub,Nat.reduceAdd,Nat.add_one_sub_one,bitOf, lty3,lty4,lty5,lty9,lty22,lty33,lty25,lty34,lty23,lty36,lty40,lty98,lty96,lty93,lty95,lty54,lty38,lty31, lenv_mem, none1, hnt, g0, g4, g7, g10, g12, gn, c3, c4, hx4, hwl, h1, h2, h3]
            rfl
          · rfl
          · skip
            simp +decide -implicitDefEqProofs only [stp,code_seq,evWanted,evOp,val,absV,evBin,evConv,evBuiltin,cmpInt,vals,partsOf,isAggD,cellsOf,isAggV,Nat.reduceEqDiff,Nat.reduceLT,Nat.reduceBEq,Nat.reduceBNe,reduceCtorEq,if_true,if_false,reduceIte,forall_const,IntKind.bits,IntKind.signed,eq_self_iff_true,finalOf,resultOf,cellsGood,AC.isCell,senv_mem,lift, flat,d_nil,d_cons,d_true,d_false,d_some,d_some1,slotsAt_get,slotsAt_nt,get_mk_cons,get_mk,wrs_nil,wrs_cons,wrs_none,get_heapAt,get_seen_nil,get_seen_cons,get_seen_one,List.cons_append,List.nil_append,Nat.reduceSub,Nat.reduceAdd,Nat.add_one_sub_one,bitOf, lty3,lty4,lty5,lty9,lty22,lty33,lty25,lty34,lty23,lty36,lty40,lty98,lty96,lty93,lty95,lty54,lty38,lty31, lenv_mem, none1, hnt, g0, g4, g7, g10, g12]
            refine hQ2 _ _ _ _ (by simp) ?_
            simp +decide -implicitDefEqProofs only [stp,code_seq,evWanted,evOp,val,absV,evBin,evConv,evBuiltin,cmpInt,vals,partsOf,isAggD,cellsOf,isAggV,Nat.reduceEqDiff,Nat.reduceLT,Nat.reduceBEq,Nat.reduceBNe,reduceCtorEq,if_true,if_false,reduceIte,forall_const,IntKind.bits,IntKind.signed,eq_self_iff_true,finalOf,resultOf,cellsGood,AC.isCell,senv_mem,lift, flat,d_nil,d_cons,d_true,d_false,d_some,d_some1,slotsAt_get,slotsAt_nt,get_mk_cons,get_mk,wrs_nil,wrs_cons,wrs_none,get_heapAt,get_seen_nil,get_seen_cons,get_seen_one,List.cons_append,List.nil_append,Nat.reduceSub,Nat.reduceAdd,Nat.add_one_sub_one,bitOf, lty3,lty4,lty5,lty9,lty22,lty33,lty25,lty34,lty23,lty36,lty40,lty98,lty96,lty93,lty95,lty54,lty38,lty31, lenv_mem, none1, hnt, g0, g4, g7]
            refine hQ _ _ _ _ (.c (.sl (n + 1) (s.length + 1))) (by simp) ?_ ⟨n + 1, bm, Nat.le_succ n, rfl, hA1, hmm, hIm.congr fun x => ?_⟩
            · simp +decide -implicitDefEqProofs only [stp,code_seq,evWanted,evOp,val,absV,evBin,evConv,evBuiltin,cmpInt,vals,partsOf,isAggD,cellsOf,isAggV,Nat.reduceEqDiff,Nat.reduceLT,Nat.reduceBEq,Nat.reduceBNe,reduceCtorEq,if_true,if_false,reduceIte,forall_const,IntKind.bits,IntKind.signed,eq_self_iff_true,finalOf,resultOf,cellsGood,AC.isCell,senv_mem,lift, flat,d_nil,d_cons,d_true,d_false,d_some,d_some1,slotsAt_get,slotsAt_nt,get_mk_cons,get_mk,wrs_nil,wrs_cons,wrs_none,get_heapAt,get_seen_nil,get_seen_cons,get_seen_one,List.cons_append,List.nil_append,Nat.reduceSub,Nat.reduceAdd,Nat.add_one_sub_one,bitOf, Tryz.f41, hnt]
            · rw [den_rep]
              constructor
              · rintro ⟨m, r1, r2, r3⟩
                exact ⟨m, by omega, by omega, r3⟩
              · rintro ⟨m, r1, r2, r3⟩
                (obtain ⟨m', w1, w2, w3⟩ := hpump m (by omega) x r3; exact ⟨m', w1, by omega, w3⟩)
      · have h3 : True := trivial
        simp +decide -implicitDefEqProofs only [stp,code_seq,evWanted,evOp,val,absV,evBin,evConv,evBuiltin,cmpInt,vals,partsOf,isAggD,cellsOf,isAggV,Nat.reduceEqDiff,Nat.reduceLT,Nat.reduceBEq,Nat.reduceBNe,reduceCtorEq,if_true,if_false,reduceIte,forall_const,IntKind.bits,IntKind.signed,eq_self_iff_true,finalOf,resultOf,cellsGood,AC.isCell,senv_mem,lift, lty3,lty4,lty5,lty9,lty22,lty33,lty25,lty34,lty23,lty36,lty40,lty98,lty96,lty93,lty95,lty54,lty38,lty31, lenv_mem, none1, hnt, g0, g4, g7, g10, g12]
        apply code_drawn lenv_ok none1_ok (by decide) _ (by rfl)
        · simp +decide -implicitDefEqProofs only [stp,code_seq,evWanted,evOp,val,absV,evBin,evConv,evBuiltin,cmpInt,vals,partsOf,isAggD,cellsOf,isAggV,Nat.reduceEqDiff,Nat.reduceLT,Nat.reduceBEq,Nat.reduceBNe,reduceCtorEq,if_true,if_false,reduceIte,forall_const,IntKind.bits,IntKind.signed,eq_self_iff_true,finalOf,resultOf,cellsGood,AC.isCell,senv_mem,lift, flat,d_nil,d_cons,d_true,d_false,d_some,d_some1,slotsAt_get,slotsAt_nt,get_mk_cons,get_mk,wrs_nil,wrs_cons,wrs_none,get_heapAt,get_seen_nil,get_seen_cons,get_seen_one,List.cons_append,List.nil_append,Nat.reduceSub,Nat.reduceAdd,Nat.add_one_sub_one,bitOf, lty3,lty4,lty5,lty9,lty22,lty33,lty25,lty34,lty23,lty36,lty40,lty98,lty96,lty93,lty95,lty54,lty38,lty31, lenv_mem, none1, hnt, g0, g4, g7, g10, g12, gn, c3, c4, hx4, hwl, h1, h2, h3]
          rfl
        · rfl
        · skip
          simp +decide -implicitDefEqProofs only [stp,code_seq,evWanted,evOp,val,absV,evBin,evConv,evBuiltin,cmpInt,vals,partsOf,isAggD,cellsOf,isAggV,Nat.reduceEqDiff,Nat.reduceLT,Nat.reduceBEq,Nat.reduceBNe,reduceCtorEq,if_true,if_false,reduceIte,forall_const,IntKind.bits,IntKind.signed,eq_self_iff_true,finalOf,resultOf,cellsGood,AC.isCell,senv_mem,lift, flat,d_nil,d_cons,d_true,d_false,d_some,d_some1,slotsAt_get,slotsAt_nt,get_mk_cons,get_mk,wrs_nil,wrs_cons,wrs_none,get_heapAt,get_seen_nil,get_seen_cons,get_seen_one,List.cons_append,List.nil_append,Nat.reduceSub,Nat.reduceAdd,Nat.add_one_sub_one,bitOf, lty3,lty4,lty5,lty9,lty22,lty33,lty25,lty34,lty23,lty36,lty40,lty98,lty96,lty93,lty95,lty54,lty38,lty31, lenv_mem, none1, hnt, g0, g4, g7, g10, g12]
          refine hQ2 _ _ _ _ (by simp) ?_
          simp +decide -implicitDefEqProofs only [stp,code_seq,evWanted,evOp,val,absV,evBin,evConv,evBuiltin,cmpInt,vals,partsOf,isAggD,cellsOf,isAggV,Nat.reduceEqDiff,Nat.reduceLT,Nat.reduceBEq,Nat.reduceBNe,reduceCtorEq,if_true,if_false,reduceIte,forall_const,IntKind.bits,IntKind.signed,eq_self_iff_true,finalOf,resultOf,cellsGood,AC.isCell,senv_mem,lift, flat,d_nil,d_cons,d_true,d_false,d_some,d_some1,slotsAt_get,slotsAt_nt,get_mk_cons,get_mk,wrs_nil,wrs_cons,wrs_none,get_heapAt,get_seen_nil,get_seen_cons,get_seen_one,List.cons_append,List.nil_append,Nat.reduceSub,Nat.reduceAdd,Nat.add_one_sub_one,bitOf, lty3,lty4,lty5,lty9,lty22,lty33,lty25,lty34,lty23,lty36,lty40,lty98,lty96,lty93,lty95,lty54,lty38,lty31, lenv_mem, none1, hnt, g0, g4, g7]
          refine hQ _ _ _ _ (.c (.sl (n + 1) (s.length + 1))) (by simp) ?_ ⟨n + 1, bm, Nat.le_succ n, rfl, hA1, hmm, hIm.congr fun x => ?_⟩
          · simp +decide -implicitDefEqProofs only [stp,code_seq,evWanted,evOp,val,absV,evBin,evConv,evBuiltin,cmpInt,vals,partsOf,isAggD,cellsOf,isAggV,Nat.reduceEqDiff,Nat.reduceLT,Nat.reduceBEq,Nat.reduceBNe,reduceCtorEq,if_true,if_false,reduceIte,forall_const,IntKind.bits,IntKind.signed,eq_self_iff_true,finalOf,resultOf,cellsGood,AC.isCell,senv_mem,lift, flat,d_nil,d_cons,d_true,d_false,d_some,d_some1,slotsAt_get,slotsAt_nt,get_mk_cons,get_mk,wrs_nil,wrs_cons,wrs_none,get_heapAt,get_seen_nil,get_seen_cons,get_seen_one,List.cons_append,List.nil_append,Nat.reduceSub,Nat.reduceAdd,Nat.add_one_sub_one,bitOf, Tryz.f41, hnt]
          · rw [den_rep]
            constructor
            · rintro ⟨m, r1, r2, r3⟩
              exact ⟨m, by omega, by omega, r3⟩
            · rintro ⟨m, r1, r2, r3⟩
              exact ⟨m, by omega, by omega, r3⟩

end Go.Proofs.YtdpielghjaehbaaGreat.Ev

/- regletref06: the ends of any expression; what holds when nothing new comes. -/
set_option linter.unusedSectionVars false
set_option linter.unusedSimpArgs false
set_option linter.unusedVariables false
namespace Go.Proofs.YtdpielghjaehbaaGreat.Ev
open Go.RowKit

theorem endsR_ok {w0 : World} {Bx : Nat} {v0 : Value} {g : List Ru} {s : List UInt8} {utf : Bool} {NM : List (List UInt8)} (hv : RulesAt w0 Bx v0 g) (hgl : g.length < 100000) (hs0 : s.length < 1000) (e : Ex) : EndsR w0 Bx v0 g s utf NM e := by
  induction e using exInd with
  | h e ih =>
    obtain ⟨kind, text, nums, least, most, kids⟩ := e
    simp only [kidsOf] at ih
    by_cases k1 : kind = 1
    · subst k1; exact anyR_ok ih hs0
    by_cases k2 : kind = 2
    · subst k2; exact seqR_ok ih hs0
    by_cases k3 : kind = 3
    · subst k3
      cases kids with
      | nil =>
        intro B0 cs ix d n T row mk M a _ hwf
        simp [wfEx] at hwf
      | cons e kids => exact repR_ok (ih e (List.mem_cons_self ..)) hs0
    by_cases k4 : kind = 4
    · subst k4; exact refR_ok hv hgl hs0
    exact leafR_ok k1 k2 k3 k4 hs0

section
variable {g : List Ru} {s : List UInt8} {utf : Bool} {M : Nat → Nat → List Bool}

theorem findIx_rule {nm : List UInt8} {i : Nat} (h : findIx nm g 0 = (i : Int)) : ∃ r, g[i]? = some r ∧ ruleOf nm g = some r.ex := by
  cases hr : ruleOf nm g with
  | none => rw [findIx_none hr] at h; omega
  | some e =>
    obtain ⟨j, r, h1, h2, h3⟩ := findIx_some (k := 0) hr
    rw [h] at h3
    have : i = j := by omega
    subst this
    exact ⟨r, h1, by rw [h2]⟩

/-- All marks are ends. -/
def Sound (g : List Ru) (s : List UInt8) (utf : Bool) (M : Nat → Nat → List Bool) : Prop := ∀ i a x, (M i a)[x]? = some true → ∃ r, g[i]? = some r ∧ den s utf (Der g s utf) r.ex a x

theorem kn_der (h : Sound g s utf M) (nm : List UInt8) (a x : Nat) (hk : kn g M nm a x) : Der g s utf nm a x := by
  obtain ⟨i, h1, h2, h3⟩ := hk
  obtain ⟨r, h4, h5⟩ := findIx_rule h1
  obtain ⟨r', h6, h7⟩ := h i a x h3
  rw [h4] at h6
  simp only [Option.some.injEq] at h6
  subst h6
  exact der_closed _ _ _ _ h5 h7

theorem denAll_in {M N : Kn} : ∀ (l : List Ex), (∀ e ∈ l, ∀ a x, a ≤ s.length → den s utf M e a x → x ≤ s.length ∧ den s utf N e a x) → ∀ {A B : Nat → Prop}, (∀ a, A a → a ≤ s.length ∧ B a) → ∀ x, denAll s utf M l A x → x ≤ s.length ∧ denAll s utf N l B x
  | [], _, A, B, hA, x, hx => by simp only [denAll] at hx ⊢; exact hA x hx
  | e :: l, h, A, B, hA, x, hx => by
    simp only [denAll] at hx ⊢
    refine denAll_in l (fun e' he' => h e' (List.mem_cons_of_mem _ he')) (fun y ⟨a, ha, hy⟩ => ?_) x hx
    obtain ⟨h1, h2⟩ := hA a ha
    obtain ⟨h3, h4⟩ := h e (List.mem_cons_self ..) a y h1 hy
    exact ⟨h3, a, h2, h4⟩

theorem pow_in {L : Nat} {F G : Nat → Nat → Prop} (h : ∀ a x, a ≤ L → F a x → x ≤ L ∧ G a x) : ∀ (n : Nat) {A B : Nat → Prop}, (∀ a, A a → a ≤ L ∧ B a) → ∀ x, pow F n A x → x ≤ L ∧ pow G n B x
  | 0, A, B, hA, x, hx => hA x hx
  | n + 1, A, B, hA, x, ⟨a, ha, hx⟩ => by
    obtain ⟨h1, h2⟩ := pow_in h n hA a ha
    obtain ⟨h3, h4⟩ := h a x h1 hx
    exact ⟨h3, a, h2, h4⟩

/-- Within the text alone. -/
theorem den_in {M N : Kn} (h : ∀ nm a x, a ≤ s.length → M nm a x → x ≤ s.length ∧ N nm a x) : ∀ (e : Ex) (a x : Nat), a ≤ s.length → den s utf M e a x → x ≤ s.length ∧ den s utf N e a x := by
  refine exInd ?_
  rintro ⟨kind, text, nums, least, most, kids⟩ ih a x ha
  rw [den_mk, den_mk]
  simp only [kidsOf] at ih
  split
  · rw [denAny_iff, denAny_iff]
    rintro ⟨e, he, hx⟩
    obtain ⟨h1, h2⟩ := ih e he a x ha hx
    exact ⟨h1, e, he, h2⟩
  split
  · exact denAll_in kids ih (fun y hy => ⟨by omega, hy⟩) x
  split
  · rintro ⟨n, h1, h2, h3⟩
    have := pow_in (L := s.length) (F := denHead s utf M kids) (G := denHead s utf N kids) (by
      intro a x ha hx
      cases kids with
      | nil => simp [denHead] at hx
      | cons e l => simp only [denHead] at hx ⊢; exact ih e (List.mem_cons_self ..) a x ha hx) n (B := fun y => y = a) (fun y hy => ⟨by omega, hy⟩) x h3
    exact ⟨this.1, n, h1, h2, this.2⟩
  split
  · exact h text a x ha
  split
  · rintro ⟨h1, h2, h3⟩
    exact ⟨h2, h1, h2, h3⟩
  split
  · rintro ⟨b, h1, h2, rfl⟩
    have := preB_len h2
    rw [List.length_drop] at this
    exact ⟨by omega, b, h1, h2, rfl⟩
  split
  · intro hx
    exact ⟨spanOf_le hx, hx⟩
  exact False.elim

/-- Nothing new comes: all ends are marked. -/
theorem der_kn (hlen : ∀ i a, i < g.length → a ≤ s.length → (M i a).length = s.length + 1) (hc : ∀ i r a x, g[i]? = some r → a ≤ s.length → den s utf (kn g M) r.ex a x → (M i a)[x]? = some true) {nm : List UInt8} {a x : Nat} (ha : a ≤ s.length) (hd : Der g s utf nm a x) : kn g M nm a x := by
  refine hd (fun nm a x => a ≤ s.length → kn g M nm a x) ?_ ha
  intro nm e a x hr hden ha
  obtain ⟨i, r, h1, h2, h3⟩ := findIx_some (k := 0) hr
  have hi := (List.getElem?_eq_some_iff.1 h1).1
  rw [Nat.zero_add] at h3
  refine ⟨i, h3, hi, hc i r a x h1 ha ?_⟩
  rw [h2]
  exact (den_in (fun nm a x ha hm => by
    have hk := hm ha
    obtain ⟨k, k1, k2, k3⟩ := hk
    have := (List.getElem?_eq_some_iff.1 k3).1
    rw [hlen k a k2 ha] at this
    exact ⟨by omega, k, k1, k2, k3⟩) e a x ha hden).2

end

/-! How many marks are open. -/

def pairsOf (G L : Nat) : List (Nat × Nat) := (List.range G).flatMap fun i => (List.range (L + 1)).map fun a => (i, a)

theorem mem_pairs {G L i a : Nat} : (i, a) ∈ pairsOf G L ↔ (i < G ∧ a ≤ L) := by
  unfold pairsOf
  simp only [List.mem_flatMap, List.mem_range, List.mem_map, Prod.mk.injEq]
  constructor
  · rintro ⟨i', hi, a', ha, rfl, rfl⟩
    exact ⟨hi, by omega⟩
  · rintro ⟨hi, ha⟩
    exact ⟨i, hi, a, by omega, rfl, rfl⟩

def openM (G L : Nat) (M : Nat → Nat → List Bool) : Nat := ((pairsOf G L).map fun p => (M p.1 p.2).count false).sum

theorem sumR_le {α : Type} {f h : α → Nat} : ∀ {l : List α}, (∀ x ∈ l, f x ≤ h x) → (l.map f).sum ≤ (l.map h).sum
  | [], _ => Nat.le_refl _
  | x :: l, hx => by
    simp only [List.map_cons, List.sum_cons]
    have h1 := hx x (List.mem_cons_self ..)
    have h2 := sumR_le (l := l) fun y hy => hx y (List.mem_cons_of_mem _ hy)
    omega

theorem sumR_lt {α : Type} {f h : α → Nat} : ∀ {l : List α}, (∀ x ∈ l, f x ≤ h x) → (∃ x ∈ l, f x < h x) → (l.map f).sum < (l.map h).sum
  | [], _, ⟨x, hx, _⟩ => by cases hx
  | x :: l, hx, ⟨y, hy, hlt⟩ => by
    simp only [List.map_cons, List.sum_cons]
    have h1 := hx x (List.mem_cons_self ..)
    have h2 := sumR_le (l := l) fun y hy => hx y (List.mem_cons_of_mem _ hy)
    rcases List.mem_cons.1 hy with rfl | hy
    · omega
    · have := sumR_lt (l := l) (fun y hy => hx y (List.mem_cons_of_mem _ hy)) ⟨y, hy, hlt⟩
      omega

/-- One row of marks is another. -/
def setM (M : Nat → Nat → List Bool) (i a : Nat) (b : List Bool) : Nat → Nat → List Bool := fun i' a' => if i' = i ∧ a' = a then b else M i' a'

theorem orL_cons {x y : Bool} {A B : List Bool} : orL (x :: A) (y :: B) = (x || y) :: orL A B := rfl
theorem newB_cons {x y : Bool} {A B : List Bool} : newB (x :: A) (y :: B) = ((y && !x) || newB A B) := rfl

theorem count_or : ∀ {A B : List Bool}, A.length = B.length → (orL A B).count false ≤ A.count false ∧ (newB A B = true → (orL A B).count false < A.count false)
  | [], [], _ => ⟨Nat.le_refl _, fun h => by cases h⟩
  | x :: A, y :: B, h => by
    obtain ⟨h1, h2⟩ := count_or (A := A) (B := B) (by simpa using h)
    rw [orL_cons, newB_cons]
    cases x <;> cases y <;> simp [List.count_cons] <;> (try constructor) <;> (try omega) <;> (try (intro h; have := h2 h; omega)) <;> (try exact h2) <;> (try exact h1)

theorem open_set {G L i a : Nat} {M : Nat → Nat → List Bool} {B : List Bool} (hi : i < G) (ha : a ≤ L) (hl : (M i a).length = B.length) : openM G L (setM M i a (orL (M i a) B)) ≤ openM G L M ∧ (newB (M i a) B = true → openM G L (setM M i a (orL (M i a) B)) < openM G L M) := by
  obtain ⟨h1, h2⟩ := count_or hl
  have hle : ∀ p ∈ pairsOf G L, ((setM M i a (orL (M i a) B)) p.1 p.2).count false ≤ (M p.1 p.2).count false := fun p _ => by
    unfold setM
    split
    · rename_i h; rw [h.1, h.2]; exact h1
    · exact Nat.le_refl _
  refine ⟨sumR_le hle, fun hn => sumR_lt hle ⟨(i, a), mem_pairs.2 ⟨hi, ha⟩, ?_⟩⟩
  have h3 := h2 hn
  simp only [setM, and_self, if_true]
  exact h3

open Classical in
/-- These marks. -/
noncomputable def canon (L : Nat) (S : Nat → Prop) : List Bool := (List.range (L + 1)).map fun x => decide (S x)

open Classical in
theorem is_canon {L : Nat} {bs : List Bool} {S : Nat → Prop} (h : Is L bs S) : bs = canon L S := by
  apply List.ext_getElem?
  intro x
  unfold canon
  rw [List.getElem?_map]
  by_cases hx : x < L + 1
  · rw [List.getElem?_range hx]
    simp only [Option.map_some]
    obtain ⟨b, hb⟩ : ∃ b, bs[x]? = some b := ⟨_, List.getElem?_eq_getElem (by rw [h.1]; exact hx)⟩
    rw [hb]
    have := h.2 x
    rw [hb] at this
    simp only [Option.some.injEq] at this ⊢
    cases b with
    | true => rw [decide_eq_true (this.1 rfl)]
    | false => rw [decide_eq_false (fun hs => by cases this.2 hs)]
  · rw [List.getElem?_eq_none (by rw [h.1]; omega), List.getElem?_eq_none (by simp; omega)]
    rfl

open Classical in
theorem canon_is {L : Nat} {S : Nat → Prop} (h : ∀ x, S x → x ≤ L) : Is L (canon L S) S := by
  refine ⟨by simp [canon], fun x => ?_⟩
  unfold canon
  rw [List.getElem?_map]
  by_cases hx : x < L + 1
  · rw [List.getElem?_range hx]
    simp
  · rw [List.getElem?_eq_none (by simp; omega)]
    simp only [Option.map_none]
    exact ⟨fun h => (by cases h), fun hs => absurd (h x hs) (by omega)⟩

end Go.Proofs.YtdpielghjaehbaaGreat.Ev
