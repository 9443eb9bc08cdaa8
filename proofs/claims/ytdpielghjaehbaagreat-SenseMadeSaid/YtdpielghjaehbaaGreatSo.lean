/- sense: repeated expressions, rules, letters, numbers, spans. -/
import Derived.Test.YtdpielghjaehbaaGreatSm
import Derived.Test.YtdpielghjaehbaaGreatEvS
set_option linter.unusedSectionVars false
set_option linter.unusedSimpArgs false
set_option linter.unusedVariables false
namespace Go.Proofs.YtdpielghjaehbaaGreat.Ev

variable {w0 : World} {Bx : Nat} {s : List UInt8} {utf : Bool} {NM : List (List UInt8)} {text : List UInt8} {nums : List Int} {least most : Int} {kids : List Ex}

set_option maxRecDepth 20000 in
set_option maxHeartbeats 2000000 in
theorem rep3_ok (ih : ∀ e ∈ kids, EndsOk w0 Bx s utf NM e) (hs0 : s.length < 1152921504606846976) : EndsOk w0 Bx s utf NM (.mk 3 text nums least most kids) := by
  intro B0 cs ix k d n es M gr a hcs hwf h ha
  refine callsA_code senv_ok none1_ok Tryz.func35 rfl (by decide) rfl rfl (by simp) fun hl _ Q hQ => ?_
  simp only [wfEx, Bool.and_eq_true, decide_eq_true_eq] at hwf
  obtain ⟨⟨⟨⟨⟨⟨⟨⟨hw3, hw4⟩, hw7⟩, hnl⟩, htl⟩, hkl⟩, hw8⟩, hw9⟩, hwk⟩ := hwf
  obtain ⟨L, N0, K0, rfl, hx⟩ := six_of hcs
  obtain ⟨L, hLe⟩ : ∃ L, cs.map lift = L := ⟨_, rfl⟩
  rw [hLe] at hx ⊢
  obtain ⟨h6, hg, c0, c1, c2, c3, c4, c5, hT, hK, hN⟩ := hx
  obtain ⟨l1, l2, l3⟩ := h.live hl
  have hik := h.ne
  have hkd : Keeps d n ((n, some (AObj.cells 36 L)) :: d) := (Keeps.refl d n).cons (Nat.le_refl n)
  have hla := Later.keep h hl hkd
  simp +decide -implicitDefEqProofs only [stp,code_seq,evWanted,evOp,val,absV,evBin,evConv,evBuiltin,cmpInt,vals,partsOf,isAggD,cellsOf,isAggV,Nat.reduceEqDiff,Nat.reduceLT,Nat.reduceBEq,Nat.reduceBNe,reduceCtorEq,if_true,if_false,reduceIte,forall_const,IntKind.bits,IntKind.signed,eq_self_iff_true,finalOf,resultOf,cellsGood,AC.isCell,senv_mem,lift, Tryz.f35, ty3,ty4,ty5,ty9,ty21,ty22,ty33,ty34,ty23,ty36,ty40,ty73,ty71,ty75,ty80,ty77,ty90, none1, h6, hg, c0, hT, Nat.le_refl, List.drop_zero]
  simp only [bne_self_eq_false, Bool.false_or, Bool.and_eq_true, bne_iff_ne, ne_eq, Bool.or_eq_true, beq_iff_eq, decide_eq_true_eq] at hw3
  obtain ⟨⟨hk0, hleast⟩, hmost⟩ := hw3
  cases kids with
  | nil => exact absurd rfl hk0
  | cons e kids =>
    have hr := rep_ok (B0 := B0) (n := n + 1) (ih e (List.mem_cons_self ..)) hcs (wfAll_mem hwk e (List.mem_cons_self ..)) hleast hmost hw8 hs0 hla.st ha
    rw [hLe] at hr
    refine call_mono hr fun v d2 n2 hR hl2 hle2 hok2 => ?_
    obtain ⟨j, es2, gr2, rfl, hla2, hden, hcov⟩ := hR
    simp +decide -implicitDefEqProofs only [stp,code_seq,evWanted,evOp,val,absV,evBin,evConv,evBuiltin,cmpInt,vals,partsOf,isAggD,cellsOf,isAggV,Nat.reduceEqDiff,Nat.reduceLT,Nat.reduceBEq,Nat.reduceBNe,reduceCtorEq,if_true,if_false,reduceIte,forall_const,IntKind.bits,IntKind.signed,eq_self_iff_true,finalOf,resultOf,cellsGood,AC.isCell,senv_mem,lift, ty3,ty4,ty5,ty9,ty21,ty22,ty33,ty34,ty23,ty36,ty40,ty73,ty71,ty75,ty80,ty77,ty90]
    refine hQ _ _ _ _ (.c (.mref j)) (by simp) ?_ ⟨j, es2, gr2, rfl, hla.trans hla2 (by omega), hden.congr fun x => ?_, cov_rep hcov⟩
    · simp +decide -implicitDefEqProofs only [stp,code_seq,evWanted,evOp,val,absV,evBin,evConv,evBuiltin,cmpInt,vals,partsOf,isAggD,cellsOf,isAggV,Nat.reduceEqDiff,Nat.reduceLT,Nat.reduceBEq,Nat.reduceBNe,reduceCtorEq,if_true,if_false,reduceIte,forall_const,IntKind.bits,IntKind.signed,eq_self_iff_true,finalOf,resultOf,cellsGood,AC.isCell,senv_mem,lift, Tryz.f35]
    · rw [den_mk]
      simp only [show ¬ (3 : Int) = 1 by decide, show ¬ (3 : Int) = 2 by decide, if_false, if_true]
      exact Iff.rfl

set_option maxRecDepth 20000 in
set_option maxHeartbeats 2000000 in
theorem ref4_ok : EndsOk w0 Bx s utf NM (.mk 4 text nums least most kids) := by
  intro B0 cs ix k d n es M gr a hcs hwf h ha
  refine callsA_code senv_ok none1_ok Tryz.func35 rfl (by decide) rfl rfl (by simp) fun hl _ Q hQ => ?_
  simp only [wfEx, Bool.and_eq_true, decide_eq_true_eq] at hwf
  obtain ⟨⟨⟨⟨⟨⟨⟨⟨hw3, hw4⟩, hw7⟩, hnl⟩, htl⟩, hkl⟩, hw8⟩, hw9⟩, hwk⟩ := hwf
  obtain ⟨L, N0, K0, rfl, hx⟩ := six_of hcs
  obtain ⟨L, hLe⟩ : ∃ L, cs.map lift = L := ⟨_, rfl⟩
  rw [hLe] at hx ⊢
  obtain ⟨h6, hg, c0, c1, c2, c3, c4, c5, hT, hK, hN⟩ := hx
  obtain ⟨l1, l2, l3⟩ := h.live hl
  have hik := h.ne
  have hkd : Keeps d n ((n, some (AObj.cells 36 L)) :: d) := (Keeps.refl d n).cons (Nat.le_refl n)
  have hla := Later.keep h hl hkd
  simp +decide -implicitDefEqProofs only [stp,code_seq,evWanted,evOp,val,absV,evBin,evConv,evBuiltin,cmpInt,vals,partsOf,isAggD,cellsOf,isAggV,Nat.reduceEqDiff,Nat.reduceLT,Nat.reduceBEq,Nat.reduceBNe,reduceCtorEq,if_true,if_false,reduceIte,forall_const,IntKind.bits,IntKind.signed,eq_self_iff_true,finalOf,resultOf,cellsGood,AC.isCell,senv_mem,lift, Tryz.f35, ty3,ty4,ty5,ty9,ty21,ty22,ty33,ty34,ty23,ty36,ty40,ty73,ty71,ty75,ty80,ty77,ty90, none1, h6, hg, c0, c1]
  have hnm : text ∈ NM := by simpa using hw4
  refine call_mono (ref_ok (n := n + 1) hla.st ha hnm) fun v d2 n2 hR hl2 hle2 hok2 => ?_
  obtain ⟨j, es2, gr2, rfl, hla2, hden, hdom⟩ := hR
  simp +decide -implicitDefEqProofs only [stp,code_seq,evWanted,evOp,val,absV,evBin,evConv,evBuiltin,cmpInt,vals,partsOf,isAggD,cellsOf,isAggV,Nat.reduceEqDiff,Nat.reduceLT,Nat.reduceBEq,Nat.reduceBNe,reduceCtorEq,if_true,if_false,reduceIte,forall_const,IntKind.bits,IntKind.signed,eq_self_iff_true,finalOf,resultOf,cellsGood,AC.isCell,senv_mem,lift, ty3,ty4,ty5,ty9,ty21,ty22,ty33,ty34,ty23,ty36,ty40,ty73,ty71,ty75,ty80,ty77,ty90]
  refine hQ _ _ _ _ (.c (.mref j)) (by simp) ?_ ⟨j, es2, gr2, rfl, hla.trans hla2 (by omega), hden.congr fun x => ?_, cov_ref hdom⟩
  · simp +decide -implicitDefEqProofs only [stp,code_seq,evWanted,evOp,val,absV,evBin,evConv,evBuiltin,cmpInt,vals,partsOf,isAggD,cellsOf,isAggV,Nat.reduceEqDiff,Nat.reduceLT,Nat.reduceBEq,Nat.reduceBNe,reduceCtorEq,if_true,if_false,reduceIte,forall_const,IntKind.bits,IntKind.signed,eq_self_iff_true,finalOf,resultOf,cellsGood,AC.isCell,senv_mem,lift, Tryz.f35]
  · rw [den_mk]
    simp only [show ¬ (4 : Int) = 1 by decide, show ¬ (4 : Int) = 2 by decide, show ¬ (4 : Int) = 3 by decide, if_false, if_true]

/-- Nothing. -/
theorem holdsN_new {d : Seg} {n : Nat} {S : Nat → Prop} (hS : ∀ x, ¬ S x) : HoldsN ((n, some (.pm [] 0)) :: d) n S := holdsN_nil (by rw [get_cons, if_pos rfl]) hS

theorem holds_only {d : Seg} {j : Nat} {z : Int} {a : Nat} {S : Nat → Prop} (h : Holds d j (· = z)) (hz : z = a) (hS : ∀ x, S x ↔ x = a) : HoldsN d j S :=
  Holds.congr h fun y => ⟨fun e => ⟨a, (hS a).2 rfl, by rw [e, hz]⟩, fun ⟨p, h1, h2⟩ => by rw [h2, (hS p).1 h1, hz]⟩

set_option maxRecDepth 20000 in
set_option maxHeartbeats 2000000 in
theorem nums6_ok (hs0 : s.length < 1152921504606846976) : EndsOk w0 Bx s utf NM (.mk 6 text nums least most kids) := by
  intro B0 cs ix k d n es M gr a hcs hwf h ha
  refine callsA_code senv_ok none1_ok Tryz.func35 rfl (by decide) rfl rfl (by simp) fun hl _ Q hQ => ?_
  simp only [wfEx, Bool.and_eq_true, decide_eq_true_eq] at hwf
  obtain ⟨⟨⟨⟨⟨⟨⟨⟨hw3, hw4⟩, hw7⟩, hnl⟩, htl⟩, hkl⟩, hw8⟩, hw9⟩, hwk⟩ := hwf
  obtain ⟨L, N0, K0, rfl, hx⟩ := six_of hcs
  obtain ⟨L, hLe⟩ : ∃ L, cs.map lift = L := ⟨_, rfl⟩
  rw [hLe] at hx ⊢
  obtain ⟨h6, hg, c0, c1, c2, c3, c4, c5, hT, hK, hN⟩ := hx
  obtain ⟨l1, l2, l3⟩ := h.live hl
  have hik := h.ne
  have hkd : Keeps d n ((n, some (AObj.cells 36 L)) :: d) := (Keeps.refl d n).cons (Nat.le_refl n)
  have hla := Later.keep h hl hkd
  have hcov : Cov s utf (domOf es) M (.mk 6 text nums least most kids) a := cov_leaf (by decide) (by decide) (by decide) (by decide)
  simp +decide -implicitDefEqProofs only [stp,code_seq,evWanted,evOp,val,absV,evBin,evConv,evBuiltin,cmpInt,vals,partsOf,isAggD,cellsOf,isAggV,Nat.reduceEqDiff,Nat.reduceLT,Nat.reduceBEq,Nat.reduceBNe,reduceCtorEq,if_true,if_false,reduceIte,forall_const,IntKind.bits,IntKind.signed,eq_self_iff_true,finalOf,resultOf,cellsGood,AC.isCell,senv_mem,lift, Tryz.f35, ty3,ty4,ty5,ty9,ty21,ty22,ty33,ty34,ty23,ty36,ty40,ty73,ty71,ty75,ty80,ty77,ty90, none1, h6, hg, c0, c2]
  have hia : IntArg (memOf w0) ((n, some (AObj.cells 36 L)) :: d) (.c N0) nums := by
    rcases hN with ⟨rfl, rfl⟩ | ⟨b, cap, rfl, hm⟩
    · exact .inl ⟨rfl, rfl⟩
    · exact .inr (.inr ⟨b, 0, cap, rfl, fun i x hi => by rw [Nat.zero_add]; exact hm i x hi⟩)
  obtain ⟨o, ho⟩ : ∃ o, textOf utf nums = o := ⟨_, rfl⟩
  refine call_mono (text_ok' hla.st.sense (by omega) hia hnl ho) fun v d2 n2 hR hl2 hle2 hok2 => ?_
  have hk := hR.1
  have hv := hR.2
  clear hR
  have hla2 := Later.keep h hl (hkd.trans hk (by omega))
  have hx2 : get [d2] ix = some (.cells 73 [.str s, .bool utf, .mref k, .bool gr]) := hla2.st.sense
  have hend : ∀ x s' d' n', (x = AX.norm ∨ x = AX.ret) → finalOf (senv (memOf w0)) s' [d'] Tryz.f35.results.toList = some (.c (.mref n2)) → d' = (n2, some (.pm [] 0)) :: d2 → (∀ x, ¬ den s utf M (.mk 6 text nums least most kids) a x) → Q x s' d' n' := fun x s' d' n' hx hf hd hS =>
    hQ x s' _ _ (.c (.mref n2)) hx hf ⟨n2, es, gr, rfl, hd ▸ hla2.trans (Later.keep hla2.st hl2 ((Keeps.refl _ _).cons (Nat.le_refl _))) (by omega), hd ▸ holdsN_new hS, hcov⟩
  rcases hv with ⟨b, rfl, rfl⟩ | ⟨rfl, rfl⟩
  · have ha0 : (0 : Int) ≤ a := by omega
    have ha1 : (a : Int) ≤ s.length := by omega
    simp +decide -implicitDefEqProofs only [stp,code_seq,evWanted,evOp,val,absV,evBin,evConv,evBuiltin,cmpInt,vals,partsOf,isAggD,cellsOf,isAggV,Nat.reduceEqDiff,Nat.reduceLT,Nat.reduceBEq,Nat.reduceBNe,reduceCtorEq,if_true,if_false,reduceIte,forall_const,IntKind.bits,IntKind.signed,eq_self_iff_true,finalOf,resultOf,cellsGood,AC.isCell,senv_mem,lift, ty3,ty4,ty5,ty9,ty21,ty22,ty33,ty34,ty23,ty36,ty40,ty73,ty71,ty75,ty80,ty77,ty90, none1, hx2, ha0, ha1, Int.toNat_natCast]
    refine call_mono (pre_ok (s.drop a) b d2 n2) fun v d3 n3 hR hl3 hle3 hok3 => ?_
    obtain ⟨rfl, rfl, rfl⟩ := hR
    cases hp : preB (s.drop a) b with
    | true =>
      have hbl := preB_len hp
      rw [List.length_drop] at hbl
      have hwl : IntKind.i64.wrap ((a : Int) + (b.length : Int)) = ((a + b.length : Nat) : Int) := by rw [wrap_id (by omega) (by omega)]; rfl
      simp +decide -implicitDefEqProofs only [stp,code_seq,evWanted,evOp,val,absV,evBin,evConv,evBuiltin,cmpInt,vals,partsOf,isAggD,cellsOf,isAggV,Nat.reduceEqDiff,Nat.reduceLT,Nat.reduceBEq,Nat.reduceBNe,reduceCtorEq,if_true,if_false,reduceIte,forall_const,IntKind.bits,IntKind.signed,eq_self_iff_true,finalOf,resultOf,cellsGood,AC.isCell,senv_mem,lift, ty3,ty4,ty5,ty9,ty21,ty22,ty33,ty34,ty23,ty36,ty40,ty73,ty71,ty75,ty80,ty77,ty90, none1, hwl]
      refine call_mono (only_ok _ _ _) fun v d4 n4 hR hl4 hle4 hok4 => ?_
      obtain ⟨hk4, j, hj, rfl, hh⟩ := hR
      simp +decide -implicitDefEqProofs only [stp,code_seq,evWanted,evOp,val,absV,evBin,evConv,evBuiltin,cmpInt,vals,partsOf,isAggD,cellsOf,isAggV,Nat.reduceEqDiff,Nat.reduceLT,Nat.reduceBEq,Nat.reduceBNe,reduceCtorEq,if_true,if_false,reduceIte,forall_const,IntKind.bits,IntKind.signed,eq_self_iff_true,finalOf,resultOf,cellsGood,AC.isCell,senv_mem,lift, ty3,ty4,ty5,ty9,ty21,ty22,ty33,ty34,ty23,ty36,ty40,ty73,ty71,ty75,ty80,ty77,ty90]
      refine hQ _ _ _ _ (.c (.mref j)) (by simp) ?_ ⟨j, es, gr, rfl, hla2.trans (Later.keep hla2.st hl3 hk4) (by omega), holds_only hh rfl fun x => ?_, hcov⟩
      · simp +decide -implicitDefEqProofs only [stp,code_seq,evWanted,evOp,val,absV,evBin,evConv,evBuiltin,cmpInt,vals,partsOf,isAggD,cellsOf,isAggV,Nat.reduceEqDiff,Nat.reduceLT,Nat.reduceBEq,Nat.reduceBNe,reduceCtorEq,if_true,if_false,reduceIte,forall_const,IntKind.bits,IntKind.signed,eq_self_iff_true,finalOf,resultOf,cellsGood,AC.isCell,senv_mem,lift, Tryz.f35]
      · rw [den_mk]
        simp [ho, hp]
    | false =>
      simp +decide -implicitDefEqProofs only [stp,code_seq,evWanted,evOp,val,absV,evBin,evConv,evBuiltin,cmpInt,vals,partsOf,isAggD,cellsOf,isAggV,Nat.reduceEqDiff,Nat.reduceLT,Nat.reduceBEq,Nat.reduceBNe,reduceCtorEq,if_true,if_false,reduceIte,forall_const,IntKind.bits,IntKind.signed,eq_self_iff_true,finalOf,resultOf,cellsGood,AC.isCell,senv_mem,lift, ty3,ty4,ty5,ty9,ty21,ty22,ty33,ty34,ty23,ty36,ty40,ty73,ty71,ty75,ty80,ty77,ty90, none1]
      refine hend _ _ _ _ (by simp) ?_ rfl fun x hx => ?_
      · simp +decide -implicitDefEqProofs only [stp,code_seq,evWanted,evOp,val,absV,evBin,evConv,evBuiltin,cmpInt,vals,partsOf,isAggD,cellsOf,isAggV,Nat.reduceEqDiff,Nat.reduceLT,Nat.reduceBEq,Nat.reduceBNe,reduceCtorEq,if_true,if_false,reduceIte,forall_const,IntKind.bits,IntKind.signed,eq_self_iff_true,finalOf,resultOf,cellsGood,AC.isCell,senv_mem,lift, Tryz.f35]
      · rw [den_mk] at hx
        simp [ho, hp] at hx
  · simp +decide -implicitDefEqProofs only [stp,code_seq,evWanted,evOp,val,absV,evBin,evConv,evBuiltin,cmpInt,vals,partsOf,isAggD,cellsOf,isAggV,Nat.reduceEqDiff,Nat.reduceLT,Nat.reduceBEq,Nat.reduceBNe,reduceCtorEq,if_true,if_false,reduceIte,forall_const,IntKind.bits,IntKind.signed,eq_self_iff_true,finalOf,resultOf,cellsGood,AC.isCell,senv_mem,lift, ty3,ty4,ty5,ty9,ty21,ty22,ty33,ty34,ty23,ty36,ty40,ty73,ty71,ty75,ty80,ty77,ty90, none1]
    refine hend _ _ _ _ (by simp) ?_ rfl fun x hx => ?_
    · simp +decide -implicitDefEqProofs only [stp,code_seq,evWanted,evOp,val,absV,evBin,evConv,evBuiltin,cmpInt,vals,partsOf,isAggD,cellsOf,isAggV,Nat.reduceEqDiff,Nat.reduceLT,Nat.reduceBEq,Nat.reduceBNe,reduceCtorEq,if_true,if_false,reduceIte,forall_const,IntKind.bits,IntKind.signed,eq_self_iff_true,finalOf,resultOf,cellsGood,AC.isCell,senv_mem,lift, Tryz.f35]
    · rw [den_mk] at hx
      simp [ho] at hx

set_option maxRecDepth 20000 in
set_option maxHeartbeats 2000000 in
theorem span7_ok (hs0 : s.length < 1152921504606846976) : EndsOk w0 Bx s utf NM (.mk 7 text nums least most kids) := by
  intro B0 cs ix k d n es M gr a hcs hwf h ha
  refine callsA_code senv_ok none1_ok Tryz.func35 rfl (by decide) rfl rfl (by simp) fun hl _ Q hQ => ?_
  simp only [wfEx, Bool.and_eq_true, decide_eq_true_eq] at hwf
  obtain ⟨⟨⟨⟨⟨⟨⟨⟨hw3, hw4⟩, hw7⟩, hnl⟩, htl⟩, hkl⟩, hw8⟩, hw9⟩, hwk⟩ := hwf
  obtain ⟨L, N0, K0, rfl, hx⟩ := six_of hcs
  obtain ⟨L, hLe⟩ : ∃ L, cs.map lift = L := ⟨_, rfl⟩
  rw [hLe] at hx ⊢
  obtain ⟨h6, hg, c0, c1, c2, c3, c4, c5, hT, hK, hN⟩ := hx
  obtain ⟨l1, l2, l3⟩ := h.live hl
  have hik := h.ne
  have hkd : Keeps d n ((n, some (AObj.cells 36 L)) :: d) := (Keeps.refl d n).cons (Nat.le_refl n)
  have hla := Later.keep h hl hkd
  have hcov : Cov s utf (domOf es) M (.mk 7 text nums least most kids) a := cov_leaf (by decide) (by decide) (by decide) (by decide)
  have hlen : 2 ≤ nums.length := by simpa using hw7
  rcases nums with _ | ⟨lo, _ | ⟨hi, nums⟩⟩
  · simp at hlen
  · simp at hlen
  rcases hN with ⟨rfl, hN⟩ | ⟨b, cap, rfl, hm⟩
  · cases hN
  have m0 := hm 0 lo rfl
  have m1 := hm 1 hi rfl
  have hb0 : (0 : Int) < ((nums.length + 1 + 1 : Nat) : Int) := by omega
  have hb1 : (1 : Int) < ((nums.length + 1 + 1 : Nat) : Int) := by omega
  simp +decide -implicitDefEqProofs only [stp,code_seq,evWanted,evOp,val,absV,evBin,evConv,evBuiltin,cmpInt,vals,partsOf,isAggD,cellsOf,isAggV,Nat.reduceEqDiff,Nat.reduceLT,Nat.reduceBEq,Nat.reduceBNe,reduceCtorEq,if_true,if_false,reduceIte,forall_const,IntKind.bits,IntKind.signed,eq_self_iff_true,finalOf,resultOf,cellsGood,AC.isCell,senv_mem,lift, Tryz.f35, ty3,ty4,ty5,ty9,ty21,ty22,ty33,ty34,ty23,ty36,ty40,ty73,ty71,ty75,ty80,ty77,ty90, none1, h6, hg, c0, c2]
  apply code_tail senv_ok none1_ok 10 (by kernel_rfl) (by kernel_rfl)
  · simp +decide -implicitDefEqProofs only [stp,code_seq,evWanted,evOp,val,absV,evBin,evConv,evBuiltin,cmpInt,vals,partsOf,isAggD,cellsOf,isAggV,Nat.reduceEqDiff,Nat.reduceLT,Nat.reduceBEq,Nat.reduceBNe,reduceCtorEq,if_true,if_false,reduceIte,forall_const,IntKind.bits,IntKind.signed,eq_self_iff_true,finalOf,resultOf,cellsGood,AC.isCell,senv_mem,lift, flat,d_nil,d_cons,d_true,d_false,d_some,d_some1,slotsAt_get,slotsAt_nt,get_mk_cons,get_mk,wrs_nil,wrs_cons,wrs_none,get_heapAt,get_seen_nil,get_seen_cons,get_seen_one,List.cons_append,List.nil_append,Nat.reduceSub,Nat.reduceAdd,Nat.add_one_sub_one,bitOf, evOps, ty3,ty4,ty5,ty9,ty21,ty22,ty33,ty34,ty23,ty36,ty40,ty73,ty71,ty75,ty80,ty77,ty90, c2, List.take_succ_cons, List.take_zero, List.length_cons, hb0, hb1, Int.toNat_zero, Int.toNat_one, Nat.zero_mul, m0, m1]
    rfl
  · simp +decide -implicitDefEqProofs only [stp,code_seq,evWanted,evOp,val,absV,evBin,evConv,evBuiltin,cmpInt,vals,partsOf,isAggD,cellsOf,isAggV,Nat.reduceEqDiff,Nat.reduceLT,Nat.reduceBEq,Nat.reduceBNe,reduceCtorEq,if_true,if_false,reduceIte,forall_const,IntKind.bits,IntKind.signed,eq_self_iff_true,finalOf,resultOf,cellsGood,AC.isCell,senv_mem,lift, ty3,ty4,ty5,ty9,ty21,ty22,ty33,ty34,ty23,ty36,ty40,ty73,ty71,ty75,ty80,ty77,ty90, none1, List.drop_succ_cons, List.drop_zero]
    refine call_mono (span_ok (mem := memOf w0) hla.st.sense (by omega) ha (by omega)) fun v d2 n2 hR hl2 hle2 hok2 => ?_
    obtain ⟨hk, j, hj, rfl, hh⟩ := hR
    simp +decide -implicitDefEqProofs only [stp,code_seq,evWanted,evOp,val,absV,evBin,evConv,evBuiltin,cmpInt,vals,partsOf,isAggD,cellsOf,isAggV,Nat.reduceEqDiff,Nat.reduceLT,Nat.reduceBEq,Nat.reduceBNe,reduceCtorEq,if_true,if_false,reduceIte,forall_const,IntKind.bits,IntKind.signed,eq_self_iff_true,finalOf,resultOf,cellsGood,AC.isCell,senv_mem,lift, ty3,ty4,ty5,ty9,ty21,ty22,ty33,ty34,ty23,ty36,ty40,ty73,ty71,ty75,ty80,ty77,ty90]
    refine hQ _ _ _ _ (.c (.mref j)) (by simp) ?_ ⟨j, es, gr, rfl, Later.keep h hl (hkd.trans hk (by omega)), Holds.congr hh fun z => ?_, hcov⟩
    · simp +decide -implicitDefEqProofs only [stp,code_seq,evWanted,evOp,val,absV,evBin,evConv,evBuiltin,cmpInt,vals,partsOf,isAggD,cellsOf,isAggV,Nat.reduceEqDiff,Nat.reduceLT,Nat.reduceBEq,Nat.reduceBNe,reduceCtorEq,if_true,if_false,reduceIte,forall_const,IntKind.bits,IntKind.signed,eq_self_iff_true,finalOf,resultOf,cellsGood,AC.isCell,senv_mem,lift, Tryz.f35]
    · have hd : ∀ p, den s utf M (.mk 7 text (lo :: hi :: nums) least most kids) a p ↔ spanEnd s utf lo hi a = some p := fun p => by
        rw [den_mk]
        simp only [show ¬ (7 : Int) = 1 by decide, show ¬ (7 : Int) = 2 by decide, show ¬ (7 : Int) = 3 by decide, show ¬ (7 : Int) = 4 by decide, show ¬ (7 : Int) = 5 by decide, show ¬ (7 : Int) = 6 by decide, if_false, if_true, spanOf]
      unfold oneOf
      exact ⟨fun ⟨p, h1, h2⟩ => ⟨p, (hd p).2 h1, h2⟩, fun ⟨p, h1, h2⟩ => ⟨p, (hd p).1 h1, h2⟩⟩

end Go.Proofs.YtdpielghjaehbaaGreat.Ev

/- sense: letters; the ends of an expression. -/
set_option linter.unusedSectionVars false
set_option linter.unusedSimpArgs false
set_option linter.unusedVariables false
namespace Go.Proofs.YtdpielghjaehbaaGreat.Ev

variable {w0 : World} {Bx : Nat} {s : List UInt8} {utf : Bool} {NM : List (List UInt8)} {text : List UInt8} {nums : List Int} {least most : Int} {kids : List Ex}

/-- The function alike, known ahead. -/
def call2 : CallF := fun f args _ d n => match args with
  | [.c (.str x), .c (.str y)] => if f = 59 ∧ x.length < 4611686018427387904 then some (.c (.bool (alikeB x y)), d, n) else none
  | _ => none

theorem call2_ok {mem : Nat → Nat → Option Value} {B0 : Nat} : CallOk Tryz.prog (senv mem) B0 call2 := pure_ok fun f args B d n v d' n' h => by
  unfold call2 at h
  split at h
  · split at h <;> cases h
    rename_i hc
    obtain ⟨rfl, h0⟩ := hc
    exact ⟨rfl, rfl, alike_ok _ _ h0⟩
  · cases h

set_option maxRecDepth 20000 in
set_option maxHeartbeats 2000000 in
theorem fold5_ok (hs0 : s.length < 1152921504606846976) : EndsOk w0 Bx s utf NM (.mk 5 text nums least most kids) := by
  intro B0 cs ix k d n es M gr a hcs hwf h ha
  refine callsA_code senv_ok call2_ok Tryz.func35 rfl (by decide) rfl rfl (by simp) fun hl _ Q hQ => ?_
  simp only [wfEx, Bool.and_eq_true, decide_eq_true_eq] at hwf
  obtain ⟨⟨⟨⟨⟨⟨⟨⟨hw3, hw4⟩, hw7⟩, hnl⟩, htl⟩, hkl⟩, hw8⟩, hw9⟩, hwk⟩ := hwf
  obtain ⟨L, N0, K0, rfl, hx⟩ := six_of hcs
  obtain ⟨L, hLe⟩ : ∃ L, cs.map lift = L := ⟨_, rfl⟩
  rw [hLe] at hx ⊢
  obtain ⟨h6, hg, c0, c1, c2, c3, c4, c5, hT, hK, hN⟩ := hx
  obtain ⟨l1, l2, l3⟩ := h.live hl
  have hik := h.ne
  have hkd : Keeps d n ((n, some (AObj.cells 36 L)) :: d) := (Keeps.refl d n).cons (Nat.le_refl n)
  have hla := Later.keep h hl hkd
  have hcov : Cov s utf (domOf es) M (.mk 5 text nums least most kids) a := cov_leaf (by decide) (by decide) (by decide) (by decide)
  have hwl : IntKind.i64.wrap ((a : Int) + (text.length : Int)) = ((a + text.length : Nat) : Int) := by rw [wrap_id (by omega) (by omega)]; rfl
  have hx1 : get [d] ix = some (.cells 73 [.str s, .bool utf, .mref k, .bool gr]) := h.sense
  have hnx : ¬ n = ix := by omega
  have ha0 : (0 : Int) ≤ a := by omega
  have hend : ∀ x s' d' n', (x = AX.norm ∨ x = AX.ret) → finalOf (senv (memOf w0)) s' [d'] Tryz.f35.results.toList = some (.c (.mref (n + 1))) → d' = (n + 1, some (.pm [] 0)) :: (n, some (AObj.cells 36 L)) :: d → (∀ x, ¬ den s utf M (.mk 5 text nums least most kids) a x) → Q x s' d' n' := fun x s' d' n' hx hf hd hS =>
    hQ x s' _ _ (.c (.mref (n + 1))) hx hf ⟨n + 1, es, gr, rfl, hd ▸ Later.keep h hl (hkd.cons (by omega)), hd ▸ holdsN_new hS, hcov⟩
  simp +decide -implicitDefEqProofs only [stp,code_seq,evWanted,evOp,val,absV,evBin,evConv,evBuiltin,cmpInt,vals,partsOf,isAggD,cellsOf,isAggV,Nat.reduceEqDiff,Nat.reduceLT,Nat.reduceBEq,Nat.reduceBNe,reduceCtorEq,if_true,if_false,reduceIte,forall_const,IntKind.bits,IntKind.signed,eq_self_iff_true,finalOf,resultOf,cellsGood,AC.isCell,senv_mem,lift, Tryz.f35, ty3,ty4,ty5,ty9,ty21,ty22,ty33,ty34,ty23,ty36,ty40,ty73,ty71,ty75,ty80,ty77,ty90, call2, h6, hg, c0, c1, hwl]
  by_cases h1 : ((a + text.length : Nat) : Int) ≤ s.length
  · have hb0 : (0 : Int) ≤ ((a + text.length : Nat) : Int) := by omega
    have hb1 : (a : Int) ≤ ((a + text.length : Nat) : Int) := by omega
    have hlt : ((s.take (a + text.length)).drop a).length < 4611686018427387904 := by simp; omega
    apply code_drawn senv_ok call2_ok (by decide) _ (by rfl)
    · simp +decide -implicitDefEqProofs only [stp,code_seq,evWanted,evOp,val,absV,evBin,evConv,evBuiltin,cmpInt,vals,partsOf,isAggD,cellsOf,isAggV,Nat.reduceEqDiff,Nat.reduceLT,Nat.reduceBEq,Nat.reduceBNe,reduceCtorEq,if_true,if_false,reduceIte,forall_const,IntKind.bits,IntKind.signed,eq_self_iff_true,finalOf,resultOf,cellsGood,AC.isCell,senv_mem,lift, flat,d_nil,d_cons,d_true,d_false,d_some,d_some1,slotsAt_get,slotsAt_nt,get_mk_cons,get_mk,wrs_nil,wrs_cons,wrs_none,get_heapAt,get_seen_nil,get_seen_cons,get_seen_one,List.cons_append,List.nil_append,Nat.reduceSub,Nat.reduceAdd,Nat.add_one_sub_one,bitOf, ty3,ty4,ty5,ty9,ty21,ty22,ty33,ty34,ty23,ty36,ty40,ty73,ty71,ty75,ty80,ty77,ty90, hx1, hnx, h1, ha0, hb1, c1, call2, Int.toNat_natCast, hlt]
      rfl
    · rfl
    · cases hal : alikeB ((s.take (a + text.length)).drop a) text with
      | true =>
        simp +decide -implicitDefEqProofs only [stp,code_seq,evWanted,evOp,val,absV,evBin,evConv,evBuiltin,cmpInt,vals,partsOf,isAggD,cellsOf,isAggV,Nat.reduceEqDiff,Nat.reduceLT,Nat.reduceBEq,Nat.reduceBNe,reduceCtorEq,if_true,if_false,reduceIte,forall_const,IntKind.bits,IntKind.signed,eq_self_iff_true,finalOf,resultOf,cellsGood,AC.isCell,senv_mem,lift, flat,d_nil,d_cons,d_true,d_false,d_some,d_some1,slotsAt_get,slotsAt_nt,get_mk_cons,get_mk,wrs_nil,wrs_cons,wrs_none,get_heapAt,get_seen_nil,get_seen_cons,get_seen_one,List.cons_append,List.nil_append,Nat.reduceSub,Nat.reduceAdd,Nat.add_one_sub_one,bitOf, ty3,ty4,ty5,ty9,ty21,ty22,ty33,ty34,ty23,ty36,ty40,ty73,ty71,ty75,ty80,ty77,ty90, call2, hal]
        refine call_mono (only_ok _ _ _) fun v d4 n4 hR hl4 hle4 hok4 => ?_
        obtain ⟨hk4, j, hj, rfl, hh⟩ := hR
        simp +decide -implicitDefEqProofs only [stp,code_seq,evWanted,evOp,val,absV,evBin,evConv,evBuiltin,cmpInt,vals,partsOf,isAggD,cellsOf,isAggV,Nat.reduceEqDiff,Nat.reduceLT,Nat.reduceBEq,Nat.reduceBNe,reduceCtorEq,if_true,if_false,reduceIte,forall_const,IntKind.bits,IntKind.signed,eq_self_iff_true,finalOf,resultOf,cellsGood,AC.isCell,senv_mem,lift, flat,d_nil,d_cons,d_true,d_false,d_some,d_some1,slotsAt_get,slotsAt_nt,get_mk_cons,get_mk,wrs_nil,wrs_cons,wrs_none,get_heapAt,get_seen_nil,get_seen_cons,get_seen_one,List.cons_append,List.nil_append,Nat.reduceSub,Nat.reduceAdd,Nat.add_one_sub_one,bitOf, ty3,ty4,ty5,ty9,ty21,ty22,ty33,ty34,ty23,ty36,ty40,ty73,ty71,ty75,ty80,ty77,ty90]
        refine hQ _ _ _ _ (.c (.mref j)) (by simp) ?_ ⟨j, es, gr, rfl, Later.keep h hl (hkd.trans hk4 (by omega)), holds_only hh rfl fun x => ?_, hcov⟩
        · simp +decide -implicitDefEqProofs only [stp,code_seq,evWanted,evOp,val,absV,evBin,evConv,evBuiltin,cmpInt,vals,partsOf,isAggD,cellsOf,isAggV,Nat.reduceEqDiff,Nat.reduceLT,Nat.reduceBEq,Nat.reduceBNe,reduceCtorEq,if_true,if_false,reduceIte,forall_const,IntKind.bits,IntKind.signed,eq_self_iff_true,finalOf,resultOf,cellsGood,AC.isCell,senv_mem,lift, flat,d_nil,d_cons,d_true,d_false,d_some,d_some1,slotsAt_get,slotsAt_nt,get_mk_cons,get_mk,wrs_nil,wrs_cons,wrs_none,get_heapAt,get_seen_nil,get_seen_cons,get_seen_one,List.cons_append,List.nil_append,Nat.reduceSub,Nat.reduceAdd,Nat.add_one_sub_one,bitOf, Tryz.f35]
        · rw [den_mk]
          simp only [show ¬ (5 : Int) = 1 by decide, show ¬ (5 : Int) = 2 by decide, show ¬ (5 : Int) = 3 by decide, show ¬ (5 : Int) = 4 by decide, if_false, if_true]
          constructor
          · exact fun h => h.1
          · rintro rfl
            exact ⟨rfl, by omega, hal⟩
      | false =>
        simp +decide -implicitDefEqProofs only [stp,code_seq,evWanted,evOp,val,absV,evBin,evConv,evBuiltin,cmpInt,vals,partsOf,isAggD,cellsOf,isAggV,Nat.reduceEqDiff,Nat.reduceLT,Nat.reduceBEq,Nat.reduceBNe,reduceCtorEq,if_true,if_false,reduceIte,forall_const,IntKind.bits,IntKind.signed,eq_self_iff_true,finalOf,resultOf,cellsGood,AC.isCell,senv_mem,lift, flat,d_nil,d_cons,d_true,d_false,d_some,d_some1,slotsAt_get,slotsAt_nt,get_mk_cons,get_mk,wrs_nil,wrs_cons,wrs_none,get_heapAt,get_seen_nil,get_seen_cons,get_seen_one,List.cons_append,List.nil_append,Nat.reduceSub,Nat.reduceAdd,Nat.add_one_sub_one,bitOf, ty3,ty4,ty5,ty9,ty21,ty22,ty33,ty34,ty23,ty36,ty40,ty73,ty71,ty75,ty80,ty77,ty90, call2, hal]
        refine hend _ _ _ _ (by simp) ?_ rfl fun x hx => ?_
        · simp +decide -implicitDefEqProofs only [stp,code_seq,evWanted,evOp,val,absV,evBin,evConv,evBuiltin,cmpInt,vals,partsOf,isAggD,cellsOf,isAggV,Nat.reduceEqDiff,Nat.reduceLT,Nat.reduceBEq,Nat.reduceBNe,reduceCtorEq,if_true,if_false,reduceIte,forall_const,IntKind.bits,IntKind.signed,eq_self_iff_true,finalOf,resultOf,cellsGood,AC.isCell,senv_mem,lift, flat,d_nil,d_cons,d_true,d_false,d_some,d_some1,slotsAt_get,slotsAt_nt,get_mk_cons,get_mk,wrs_nil,wrs_cons,wrs_none,get_heapAt,get_seen_nil,get_seen_cons,get_seen_one,List.cons_append,List.nil_append,Nat.reduceSub,Nat.reduceAdd,Nat.add_one_sub_one,bitOf, Tryz.f35]
        · rw [den_mk] at hx
          simp only [show ¬ (5 : Int) = 1 by decide, show ¬ (5 : Int) = 2 by decide, show ¬ (5 : Int) = 3 by decide, show ¬ (5 : Int) = 4 by decide, if_false, if_true] at hx
          obtain ⟨rfl, _, h3⟩ := hx
          rw [hal] at h3; cases h3
  · apply code_drawn senv_ok call2_ok (by decide) _ (by rfl)
    · simp +decide -implicitDefEqProofs only [stp,code_seq,evWanted,evOp,val,absV,evBin,evConv,evBuiltin,cmpInt,vals,partsOf,isAggD,cellsOf,isAggV,Nat.reduceEqDiff,Nat.reduceLT,Nat.reduceBEq,Nat.reduceBNe,reduceCtorEq,if_true,if_false,reduceIte,forall_const,IntKind.bits,IntKind.signed,eq_self_iff_true,finalOf,resultOf,cellsGood,AC.isCell,senv_mem,lift, flat,d_nil,d_cons,d_true,d_false,d_some,d_some1,slotsAt_get,slotsAt_nt,get_mk_cons,get_mk,wrs_nil,wrs_cons,wrs_none,get_heapAt,get_seen_nil,get_seen_cons,get_seen_one,List.cons_append,List.nil_append,Nat.reduceSub,Nat.reduceAdd,Nat.add_one_sub_one,bitOf, ty3,ty4,ty5,ty9,ty21,ty22,ty33,ty34,ty23,ty36,ty40,ty73,ty71,ty75,ty80,ty77,ty90, hx1, hnx, h1, c1]
      rfl
    · rfl
    · simp +decide -implicitDefEqProofs only [stp,code_seq,evWanted,evOp,val,absV,evBin,evConv,evBuiltin,cmpInt,vals,partsOf,isAggD,cellsOf,isAggV,Nat.reduceEqDiff,Nat.reduceLT,Nat.reduceBEq,Nat.reduceBNe,reduceCtorEq,if_true,if_false,reduceIte,forall_const,IntKind.bits,IntKind.signed,eq_self_iff_true,finalOf,resultOf,cellsGood,AC.isCell,senv_mem,lift, flat,d_nil,d_cons,d_true,d_false,d_some,d_some1,slotsAt_get,slotsAt_nt,get_mk_cons,get_mk,wrs_nil,wrs_cons,wrs_none,get_heapAt,get_seen_nil,get_seen_cons,get_seen_one,List.cons_append,List.nil_append,Nat.reduceSub,Nat.reduceAdd,Nat.add_one_sub_one,bitOf, ty3,ty4,ty5,ty9,ty21,ty22,ty33,ty34,ty23,ty36,ty40,ty73,ty71,ty75,ty80,ty77,ty90, call2]
      refine hend _ _ _ _ (by simp) ?_ rfl fun x hx => ?_
      · simp +decide -implicitDefEqProofs only [stp,code_seq,evWanted,evOp,val,absV,evBin,evConv,evBuiltin,cmpInt,vals,partsOf,isAggD,cellsOf,isAggV,Nat.reduceEqDiff,Nat.reduceLT,Nat.reduceBEq,Nat.reduceBNe,reduceCtorEq,if_true,if_false,reduceIte,forall_const,IntKind.bits,IntKind.signed,eq_self_iff_true,finalOf,resultOf,cellsGood,AC.isCell,senv_mem,lift, flat,d_nil,d_cons,d_true,d_false,d_some,d_some1,slotsAt_get,slotsAt_nt,get_mk_cons,get_mk,wrs_nil,wrs_cons,wrs_none,get_heapAt,get_seen_nil,get_seen_cons,get_seen_one,List.cons_append,List.nil_append,Nat.reduceSub,Nat.reduceAdd,Nat.add_one_sub_one,bitOf, Tryz.f35]
      · rw [den_mk] at hx
        simp only [show ¬ (5 : Int) = 1 by decide, show ¬ (5 : Int) = 2 by decide, show ¬ (5 : Int) = 3 by decide, show ¬ (5 : Int) = 4 by decide, if_false, if_true] at hx
        obtain ⟨rfl, h2, _⟩ := hx
        omega

set_option maxRecDepth 20000 in
set_option maxHeartbeats 2000000 in
theorem none0_ok {kind : Int} (k1 : kind ≠ 1) (k2 : kind ≠ 2) (k3 : kind ≠ 3) (k4 : kind ≠ 4) (k5 : kind ≠ 5) (k6 : kind ≠ 6) (k7 : kind ≠ 7) : EndsOk w0 Bx s utf NM (.mk kind text nums least most kids) := by
  intro B0 cs ix k d n es M gr a hcs hwf h ha
  refine callsA_code senv_ok none1_ok Tryz.func35 rfl (by decide) rfl rfl (by simp) fun hl _ Q hQ => ?_
  simp only [wfEx, Bool.and_eq_true, decide_eq_true_eq] at hwf
  obtain ⟨⟨⟨⟨⟨⟨⟨⟨hw3, hw4⟩, hw7⟩, hnl⟩, htl⟩, hkl⟩, hw8⟩, hw9⟩, hwk⟩ := hwf
  obtain ⟨L, N0, K0, rfl, hx⟩ := six_of hcs
  obtain ⟨L, hLe⟩ : ∃ L, cs.map lift = L := ⟨_, rfl⟩
  rw [hLe] at hx ⊢
  obtain ⟨h6, hg, c0, c1, c2, c3, c4, c5, hT, hK, hN⟩ := hx
  obtain ⟨l1, l2, l3⟩ := h.live hl
  have hik := h.ne
  have hkd : Keeps d n ((n, some (AObj.cells 36 L)) :: d) := (Keeps.refl d n).cons (Nat.le_refl n)
  have hla := Later.keep h hl hkd
  have hcov : Cov s utf (domOf es) M (.mk kind text nums least most kids) a := cov_leaf k1 k2 k3 k4
  have q1 : (kind == 1) = false := by simpa using k1
  have q2 : (kind == 2) = false := by simpa using k2
  have q3 : (kind == 3) = false := by simpa using k3
  have q4 : (kind == 4) = false := by simpa using k4
  have q5 : (kind == 5) = false := by simpa using k5
  have q6 : (kind == 6) = false := by simpa using k6
  have q7 : (kind == 7) = false := by simpa using k7
  simp +decide -implicitDefEqProofs only [stp,code_seq,evWanted,evOp,val,absV,evBin,evConv,evBuiltin,cmpInt,vals,partsOf,isAggD,cellsOf,isAggV,Nat.reduceEqDiff,Nat.reduceLT,Nat.reduceBEq,Nat.reduceBNe,reduceCtorEq,if_true,if_false,reduceIte,forall_const,IntKind.bits,IntKind.signed,eq_self_iff_true,finalOf,resultOf,cellsGood,AC.isCell,senv_mem,lift, Tryz.f35, ty3,ty4,ty5,ty9,ty21,ty22,ty33,ty34,ty23,ty36,ty40,ty73,ty71,ty75,ty80,ty77,ty90, none1, h6, hg, c0, q1, q2, q3, q4, q5, q6, q7]
  refine hQ _ _ _ _ (.c (.mref (n + 1))) (by simp) ?_ ⟨n + 1, es, gr, rfl, Later.keep h hl (hkd.cons (by omega)), holdsN_new fun x hx => ?_, hcov⟩
  · simp +decide -implicitDefEqProofs only [stp,code_seq,evWanted,evOp,val,absV,evBin,evConv,evBuiltin,cmpInt,vals,partsOf,isAggD,cellsOf,isAggV,Nat.reduceEqDiff,Nat.reduceLT,Nat.reduceBEq,Nat.reduceBNe,reduceCtorEq,if_true,if_false,reduceIte,forall_const,IntKind.bits,IntKind.signed,eq_self_iff_true,finalOf,resultOf,cellsGood,AC.isCell,senv_mem,lift, Tryz.f35]
  · rw [den_mk] at hx
    simp only [k1, k2, k3, k4, k5, k6, k7, if_false] at hx

/-- The ends of an expression. -/
theorem ends_ok (hs0 : s.length < 1152921504606846976) (e : Ex) : EndsOk w0 Bx s utf NM e := by
  induction e using exInd with
  | h e ih =>
    obtain ⟨kind, text, nums, least, most, kids⟩ := e
    simp only [kidsOf] at ih
    by_cases k1 : kind = 1
    · subst k1; exact any_ok ih
    by_cases k2 : kind = 2
    · subst k2; exact seq_ok ih
    by_cases k3 : kind = 3
    · subst k3; exact rep3_ok ih hs0
    by_cases k4 : kind = 4
    · subst k4; exact ref4_ok
    by_cases k5 : kind = 5
    · subst k5; exact fold5_ok hs0
    by_cases k6 : kind = 6
    · subst k6; exact nums6_ok hs0
    by_cases k7 : kind = 7
    · subst k7; exact span7_ok hs0
    exact none0_ok k1 k2 k3 k4 k5 k6 k7

end Go.Proofs.YtdpielghjaehbaaGreat.Ev
