/- sense: one of some expressions. -/
import Derived.Test.YtdpielghjaehbaaGreatSk
set_option linter.unusedSectionVars false
set_option linter.unusedSimpArgs false
set_option linter.unusedVariables false
namespace Go.Proofs.YtdpielghjaehbaaGreat.Ev

/-- The six cells of an expression, as far as steps through code need them. -/
structure Six (w0 : World) (Bx : Nat) (kind : Int) (text : List UInt8) (nums : List Int) (least most : Int) (kids : List Ex) (L : List AC) (N0 K0 : AC) : Prop where
  len : L.length = 6
  good : L.all AC.isCell = true
  c0 : L[0]? = some (.int .i64 kind)
  c1 : L[1]? = some (.str text)
  c2 : L[2]? = some N0
  c3 : L[3]? = some (.int .i64 least)
  c4 : L[4]? = some (.int .i64 most)
  c5 : L[5]? = some K0
  six : List.take 6 L = L
  kids : (K0 = .sl0 ∧ kids = []) ∨ ∃ b cap, K0 = .raw (.slice (some ⟨b, 0, none⟩) kids.length cap) ∧ ∀ j e, kids[j]? = some e → ∃ ks, memCells (senv (memOf w0)) b (j * 6) 6 = some (ks.map lift) ∧ ExAt w0 Bx e ks
  nums : (N0 = .sl0 ∧ nums = []) ∨ ∃ b cap, N0 = .raw (.slice (some ⟨b, 0, none⟩) nums.length cap) ∧ ∀ j x, nums[j]? = some x → memOf w0 b j = some (.int .i64 x)

theorem six_of {w0 : World} {Bx : Nat} {kind : Int} {text : List UInt8} {nums : List Int} {least most : Int} {kids : List Ex} {cs : List Value} (h : ExAt w0 Bx (.mk kind text nums least most kids) cs) : ∃ L N0 K0, cs.map lift = L ∧ Six w0 Bx kind text nums least most kids L N0 K0 := by
  obtain ⟨N0, K0, hL, hN0, hK0, hK, hN⟩ := kid_mem h
  have h6 : (cs.map lift).length = 6 := by simp [(exAt_six h).1]
  refine ⟨_, N0, K0, rfl, h6, (exAt_six h).2, by rw [hL]; rfl, by rw [hL]; rfl, by rw [hL]; rfl, by rw [hL]; rfl, by rw [hL]; rfl, by rw [hL]; rfl, List.take_of_length_le (by omega), hK, hN⟩

set_option maxRecDepth 20000 in
theorem any_ok {w0 : World} {Bx : Nat} {s : List UInt8} {utf : Bool} {NM : List (List UInt8)} {text : List UInt8} {nums : List Int} {least most : Int} {kids : List Ex} (ih : ∀ e ∈ kids, EndsOk w0 Bx s utf NM e) : EndsOk w0 Bx s utf NM (.mk 1 text nums least most kids) := by
  intro B0 cs ix k d n es M gr a hcs hwf h ha
  refine callsA_code senv_ok none1_ok Tryz.func35 rfl (by decide) rfl rfl (by simp) fun hl _ Q hQ => ?_
  simp only [wfEx, Bool.and_eq_true, decide_eq_true_eq] at hwf
  obtain ⟨⟨⟨⟨⟨⟨_, _⟩, _⟩, hkl⟩, _⟩, _⟩, hwk⟩ := hwf
  obtain ⟨L, N0, K0, rfl, hx⟩ := six_of hcs
  obtain ⟨L, hLe⟩ : ∃ L, cs.map lift = L := ⟨_, rfl⟩
  rw [hLe] at hx ⊢
  obtain ⟨h6, hg, c0, c1, c2, c3, c4, c5, hT, hK, hN⟩ := hx
  obtain ⟨l1, l2, l3⟩ := h.live hl
  have hik := h.ne
  have e1 : ¬ n + 1 = n := by omega
  have hk2 : Keeps d n ((n + 1, some (AObj.pm [] 0)) :: (n, some (AObj.cells 36 L)) :: d) := (((Keeps.refl d n).cons (Nat.le_refl n)).cons (by omega))
  simp +decide -implicitDefEqProofs only [stp,code_seq,evWanted,evOp,val,absV,evBin,evConv,evBuiltin,cmpInt,vals,partsOf,isAggD,cellsOf,isAggV,Nat.reduceEqDiff,Nat.reduceLT,Nat.reduceBEq,Nat.reduceBNe,reduceCtorEq,if_true,if_false,reduceIte,forall_const,IntKind.bits,IntKind.signed,eq_self_iff_true,finalOf,resultOf,cellsGood,AC.isCell,senv_mem,lift, Tryz.f35, ty3,ty4,ty5,ty9,ty21,ty22,ty33,ty34,ty23,ty36,ty40,ty73,ty71,ty75,ty80,ty77,ty90, none1, h6, hg, c0, c5, e1]
  rcases hK with ⟨rfl, rfl⟩ | ⟨b, cap, rfl, hkid⟩
  · simp +decide -implicitDefEqProofs only [stp,code_seq,evWanted,evOp,val,absV,evBin,evConv,evBuiltin,cmpInt,vals,partsOf,isAggD,cellsOf,isAggV,Nat.reduceEqDiff,Nat.reduceLT,Nat.reduceBEq,Nat.reduceBNe,reduceCtorEq,if_true,if_false,reduceIte,forall_const,IntKind.bits,IntKind.signed,eq_self_iff_true,finalOf,resultOf,cellsGood,AC.isCell,senv_mem,lift, ty3,ty4,ty5,ty9,ty21,ty22,ty33,ty34,ty23,ty36,ty40,ty73,ty71,ty75,ty80,ty77,ty90, none1]
    refine code_loop senv_ok none1_ok (fun q sl d' n' => d' = (n + 1, some (AObj.pm [] 0)) :: (n, some (AObj.cells 36 L)) :: d ∧ sl.nt = 133 ∧ sl.get 7 = .c (.mref (n + 1)) ∧ sl.get 23 = .c (.int .i64 0) ∧ sl.get 24 = .c (.int .i64 0)) 0 ?_ ?_
    · refine ⟨rfl, rfl, ?_⟩
      simp +decide -implicitDefEqProofs only [stp,code_seq,evWanted,evOp,val,absV,evBin,evConv,evBuiltin,cmpInt,vals,partsOf,isAggD,cellsOf,isAggV,Nat.reduceEqDiff,Nat.reduceLT,Nat.reduceBEq,Nat.reduceBNe,reduceCtorEq,if_true,if_false,reduceIte,forall_const,IntKind.bits,IntKind.signed,eq_self_iff_true,finalOf,resultOf,cellsGood,AC.isCell,senv_mem,lift]
    · rintro q sl _ n' ⟨rfl, hnt, g7, g23, g24⟩ hl1 hs1 Q' hQ1 hQ2
      have hi : ¬ (0 : Int) < 0 := by omega
      simp +decide -implicitDefEqProofs only [stp,code_seq,evWanted,evOp,val,absV,evBin,evConv,evBuiltin,cmpInt,vals,partsOf,isAggD,cellsOf,isAggV,Nat.reduceEqDiff,Nat.reduceLT,Nat.reduceBEq,Nat.reduceBNe,reduceCtorEq,if_true,if_false,reduceIte,forall_const,IntKind.bits,IntKind.signed,eq_self_iff_true,finalOf,resultOf,cellsGood,AC.isCell,senv_mem,lift, ty3,ty4,ty5,ty9,ty21,ty22,ty33,ty34,ty23,ty36,ty40,ty73,ty71,ty75,ty80,ty77,ty90, hnt, g23, g24, hi]
      refine hQ2 _ _ _ _ (by simp) ?_
      simp +decide -implicitDefEqProofs only [stp,code_seq,evWanted,evOp,val,absV,evBin,evConv,evBuiltin,cmpInt,vals,partsOf,isAggD,cellsOf,isAggV,Nat.reduceEqDiff,Nat.reduceLT,Nat.reduceBEq,Nat.reduceBNe,reduceCtorEq,if_true,if_false,reduceIte,forall_const,IntKind.bits,IntKind.signed,eq_self_iff_true,finalOf,resultOf,cellsGood,AC.isCell,senv_mem,lift, Tryz.f35, ty3,ty4,ty5,ty9,ty21,ty22,ty33,ty34,ty23,ty36,ty40,ty73,ty71,ty75,ty80,ty77,ty90, hnt, g7]
      refine hQ _ _ _ _ (.c (.mref (n + 1))) (by simp) ?_ ⟨n + 1, es, gr, rfl, Later.keep h hl hk2, holdsN_nil (by rw [get_cons, if_pos rfl]) (fun x hx => ?_), cov_any (by simp)⟩
      · simp +decide -implicitDefEqProofs only [stp,code_seq,evWanted,evOp,val,absV,evBin,evConv,evBuiltin,cmpInt,vals,partsOf,isAggD,cellsOf,isAggV,Nat.reduceEqDiff,Nat.reduceLT,Nat.reduceBEq,Nat.reduceBNe,reduceCtorEq,if_true,if_false,reduceIte,forall_const,IntKind.bits,IntKind.signed,eq_self_iff_true,finalOf,resultOf,cellsGood,AC.isCell,senv_mem,lift, Tryz.f35, hnt]
      · rw [den_mk] at hx
        simp [denAny] at hx
  · simp +decide -implicitDefEqProofs only [stp,code_seq,evWanted,evOp,val,absV,evBin,evConv,evBuiltin,cmpInt,vals,partsOf,isAggD,cellsOf,isAggV,Nat.reduceEqDiff,Nat.reduceLT,Nat.reduceBEq,Nat.reduceBNe,reduceCtorEq,if_true,if_false,reduceIte,forall_const,IntKind.bits,IntKind.signed,eq_self_iff_true,finalOf,resultOf,cellsGood,AC.isCell,senv_mem,lift, ty3,ty4,ty5,ty9,ty21,ty22,ty33,ty34,ty23,ty36,ty40,ty73,ty71,ty75,ty80,ty77,ty90, none1]
    refine code_loop senv_ok none1_ok (fun q sl d' n' => sl.nt = 133 ∧ n + 2 ≤ n' ∧ sl.get 0 = .c (.ptr ix 0) ∧ sl.get 2 = .c (.int .i64 a) ∧ sl.get 7 = .c (.mref (n + 1)) ∧ sl.get 22 = .c (.raw (.slice (some ⟨b, 0, none⟩) kids.length cap)) ∧ sl.get 23 = .c (.int .i64 kids.length) ∧
      ∃ (i : Nat) (es' : List KE) (gr' : Bool), i + q = kids.length ∧ sl.get 24 = .c (.int .i64 i) ∧ Later s utf NM ix k d n es gr M d' es' gr' ∧ (∀ e ∈ es', setOf e ≠ n + 1) ∧ HoldsN d' (n + 1) (fun x => ∃ e ∈ kids.take i, den s utf M e a x) ∧ ∀ e ∈ kids.take i, Cov s utf (domOf es') M e a) kids.length ?_ ?_
    · refine ⟨rfl, by omega, ?_⟩
      simp +decide -implicitDefEqProofs only [stp,code_seq,evWanted,evOp,val,absV,evBin,evConv,evBuiltin,cmpInt,vals,partsOf,isAggD,cellsOf,isAggV,Nat.reduceEqDiff,Nat.reduceLT,Nat.reduceBEq,Nat.reduceBNe,reduceCtorEq,if_true,if_false,reduceIte,forall_const,IntKind.bits,IntKind.signed,eq_self_iff_true,finalOf,resultOf,cellsGood,AC.isCell,senv_mem,lift]
      exact ⟨0, es, gr, by omega, rfl, Later.keep h hl hk2, fun e he => by have := l3 e he; omega, holdsN_nil (by rw [get_cons, if_pos rfl]) (by simp), by simp⟩
    · rintro q sl d' n' ⟨hnt, hn', g0, g2, g7, g22, g23, i, es', gr', hiq, g24, hla, hid, hh, hcov⟩ hl1 hs1 Q' hQ1 hQ2
      by_cases hi : (i : Int) < kids.length
      · have hi0 : (0 : Int) ≤ i := by omega
        have hi' : i < kids.length := by omega
        have hie : kids[i]? = some kids[i] := List.getElem?_eq_getElem hi'
        have hin : kids[i] ∈ kids := List.getElem_mem hi'
        obtain ⟨ks, hks, hex⟩ := hkid i _ hie
        have hih := fun d n es gr (h : Kst s utf NM ix k d es M gr) => ih kids[i] hin B0 ks ix k d n es M gr a hex (wfAll_mem hwk _ hin) h ha
        have q6 : (ks.map lift).length = 6 := by simp [(exAt_six hex).1]
        have qg : (ks.map lift).all AC.isCell = true := (exAt_six hex).2
        generalize ks.map lift = L' at hks hih q6 qg
        have qT : List.take 6 L' = L' := List.take_of_length_le (by omega)
        simp +decide -implicitDefEqProofs only [stp,code_seq,evWanted,evOp,val,absV,evBin,evConv,evBuiltin,cmpInt,vals,partsOf,isAggD,cellsOf,isAggV,Nat.reduceEqDiff,Nat.reduceLT,Nat.reduceBEq,Nat.reduceBNe,reduceCtorEq,if_true,if_false,reduceIte,forall_const,IntKind.bits,IntKind.signed,eq_self_iff_true,finalOf,resultOf,cellsGood,AC.isCell,senv_mem,lift, ty3,ty4,ty5,ty9,ty21,ty22,ty33,ty34,ty23,ty36,ty40,ty73,ty71,ty75,ty80,ty77,ty90, none1, hnt, g0, g2, g7, g22, g23, g24, hi, hi0, Int.toNat_natCast, hks, q6, qg, qT, spliceAll,allFields,places,splice,List.take_zero,List.take_succ_cons,List.take_nil,List.drop_zero,List.drop_succ_cons,List.drop_nil,List.nil_append,List.append_nil,List.cons_append,List.all_cons,List.all_nil,Option.isSome_some,Nat.reduceAdd,Nat.reduceSub,Nat.reduceMul,Nat.reduceMod,Nat.reduceLeDiff,List.range,List.range.loop,List.map_cons,List.map_nil,pfind]
        have hkn : Keeps d' n' ((n', some (AObj.cells 36 L')) :: (n', some (AObj.cells 36 [.int .i64 0, .str [], .sl0, .int .i64 0, .int .i64 0, .sl0])) :: d') := (((Keeps.refl d' n').cons (Nat.le_refl n')).cons (Nat.le_refl n'))
        have hla1 := hla.trans (Later.keep hla.st hl1 hkn) (by omega)
        refine call_mono (hih _ _ es' gr' hla1.st) fun v d2 n2 hR hl2 hle2 hok => ?_
        obtain ⟨j2, es2, gr2, rfl, hla2, hden, hcov2⟩ := hR
        obtain ⟨m1, m2, m3⟩ := hla.st.live hl1
        simp +decide -implicitDefEqProofs only [stp,code_seq,evWanted,evOp,val,absV,evBin,evConv,evBuiltin,cmpInt,vals,partsOf,isAggD,cellsOf,isAggV,Nat.reduceEqDiff,Nat.reduceLT,Nat.reduceBEq,Nat.reduceBNe,reduceCtorEq,if_true,if_false,reduceIte,forall_const,IntKind.bits,IntKind.signed,eq_self_iff_true,finalOf,resultOf,cellsGood,AC.isCell,senv_mem,lift, ty3,ty4,ty5,ty9,ty21,ty22,ty33,ty34,ty23,ty36,ty40,ty73,ty71,ty75,ty80,ty77,ty90, none1, hnt, g7]
        have hout2 := hh.at_ (d' := d2) (by rw [hla2.keeps (n + 1) (by omega) (by omega) (by omega)]; exact hkn _ (by omega))
        refine call_mono (add_ok hout2 hden) fun v d3 n3 hR hl3 hle3 hok3 => ?_
        obtain ⟨hk3, hh3, bb, rfl, _⟩ := hR
        have hid2 : ∀ e ∈ es2, setOf e ≠ n + 1 := by
          obtain ⟨ex, rfl, hex, _⟩ := hla2.more
          intro e he
          rcases List.mem_append.1 he with he | he
          · exact hid e he
          · have := hex e he; omega
        have hla3 := (hla1.trans hla2 (by omega)).but (j := n + 1) (by omega) hid2 (by omega) (by omega) hl2 hk3 (by omega)
        have htk : kids.take (i + 1) = kids.take i ++ [kids[i]] := List.take_succ_eq_append_getElem hi'
        simp +decide -implicitDefEqProofs only [stp,code_seq,evWanted,evOp,val,absV,evBin,evConv,evBuiltin,cmpInt,vals,partsOf,isAggD,cellsOf,isAggV,Nat.reduceEqDiff,Nat.reduceLT,Nat.reduceBEq,Nat.reduceBNe,reduceCtorEq,if_true,if_false,reduceIte,forall_const,IntKind.bits,IntKind.signed,eq_self_iff_true,finalOf,resultOf,cellsGood,AC.isCell,senv_mem,lift, ty3,ty4,ty5,ty9,ty21,ty22,ty33,ty34,ty23,ty36,ty40,ty73,ty71,ty75,ty80,ty77,ty90, none1, hnt, g24]
        refine hQ1 (q - 1) _ _ _ (by omega) ⟨by simp only [nt_put, hnt], by omega, ?_⟩
        simp +decide -implicitDefEqProofs only [stp,code_seq,evWanted,evOp,val,absV,evBin,evConv,evBuiltin,cmpInt,vals,partsOf,isAggD,cellsOf,isAggV,Nat.reduceEqDiff,Nat.reduceLT,Nat.reduceBEq,Nat.reduceBNe,reduceCtorEq,if_true,if_false,reduceIte,forall_const,IntKind.bits,IntKind.signed,eq_self_iff_true,finalOf,resultOf,cellsGood,AC.isCell,senv_mem,lift, hnt, g0, g2, g7, g22, g23]
        refine ⟨i + 1, es2, gr2, by omega, by rw [wrap_succ (by omega)], hla3, hid2, Holds.congr hh3 fun z => ?_, fun e he => ?_⟩
        · constructor
          · rintro (⟨p, ⟨e, he, hx⟩, rfl⟩ | ⟨p, hx, rfl⟩)
            · exact ⟨p, ⟨e, by rw [htk]; exact List.mem_append_left _ he, hx⟩, rfl⟩
            · exact ⟨p, ⟨kids[i], by rw [htk]; exact List.mem_append_right _ (List.mem_singleton.2 rfl), hx⟩, rfl⟩
          · rintro ⟨p, ⟨e, he, hx⟩, rfl⟩
            rw [htk] at he
            rcases List.mem_append.1 he with he | he
            · exact .inl ⟨p, ⟨e, he, hx⟩, rfl⟩
            · simp only [List.mem_singleton] at he
              subst he
              exact .inr ⟨p, hx, rfl⟩
        · rw [htk] at he
          rcases List.mem_append.1 he with he | he
          · exact (hcov e he).mono fun nm b => hla2.dom
          · simp only [List.mem_singleton] at he
            subst he
            exact hcov2
      · simp +decide -implicitDefEqProofs only [stp,code_seq,evWanted,evOp,val,absV,evBin,evConv,evBuiltin,cmpInt,vals,partsOf,isAggD,cellsOf,isAggV,Nat.reduceEqDiff,Nat.reduceLT,Nat.reduceBEq,Nat.reduceBNe,reduceCtorEq,if_true,if_false,reduceIte,forall_const,IntKind.bits,IntKind.signed,eq_self_iff_true,finalOf,resultOf,cellsGood,AC.isCell,senv_mem,lift, ty3,ty4,ty5,ty9,ty21,ty22,ty33,ty34,ty23,ty36,ty40,ty73,ty71,ty75,ty80,ty77,ty90, hnt, g23, g24, hi]
        refine hQ2 _ _ _ _ (by simp) ?_
        have hall : kids.take i = kids := List.take_of_length_le (by omega)
        rw [hall] at hh hcov
        simp +decide -implicitDefEqProofs only [stp,code_seq,evWanted,evOp,val,absV,evBin,evConv,evBuiltin,cmpInt,vals,partsOf,isAggD,cellsOf,isAggV,Nat.reduceEqDiff,Nat.reduceLT,Nat.reduceBEq,Nat.reduceBNe,reduceCtorEq,if_true,if_false,reduceIte,forall_const,IntKind.bits,IntKind.signed,eq_self_iff_true,finalOf,resultOf,cellsGood,AC.isCell,senv_mem,lift, Tryz.f35, ty3,ty4,ty5,ty9,ty21,ty22,ty33,ty34,ty23,ty36,ty40,ty73,ty71,ty75,ty80,ty77,ty90, hnt, g7]
        refine hQ _ _ _ _ (.c (.mref (n + 1))) (by simp) ?_ ⟨n + 1, es', gr', rfl, hla, hh.congr fun x => ?_, cov_any hcov⟩
        · simp +decide -implicitDefEqProofs only [stp,code_seq,evWanted,evOp,val,absV,evBin,evConv,evBuiltin,cmpInt,vals,partsOf,isAggD,cellsOf,isAggV,Nat.reduceEqDiff,Nat.reduceLT,Nat.reduceBEq,Nat.reduceBNe,reduceCtorEq,if_true,if_false,reduceIte,forall_const,IntKind.bits,IntKind.signed,eq_self_iff_true,finalOf,resultOf,cellsGood,AC.isCell,senv_mem,lift, Tryz.f35, hnt]
        · rw [den_mk, if_pos rfl, denAny_iff]

end Go.Proofs.YtdpielghjaehbaaGreat.Ev

/- sense: some expressions, one behind the other. -/
set_option linter.unusedSectionVars false
set_option linter.unusedSimpArgs false
set_option linter.unusedVariables false
namespace Go.Proofs.YtdpielghjaehbaaGreat.Ev

set_option maxRecDepth 20000 in
set_option maxHeartbeats 2000000 in
theorem seq_ok {w0 : World} {Bx : Nat} {s : List UInt8} {utf : Bool} {NM : List (List UInt8)} {text : List UInt8} {nums : List Int} {least most : Int} {kids : List Ex} (ih : ∀ e ∈ kids, EndsOk w0 Bx s utf NM e) : EndsOk w0 Bx s utf NM (.mk 2 text nums least most kids) := by
  intro B0 cs ix k d n es M gr a hcs hwf h ha
  refine callsA_code senv_ok none1_ok Tryz.func35 rfl (by decide) rfl rfl (by simp) fun hl _ Q hQ => ?_
  simp only [wfEx, Bool.and_eq_true, decide_eq_true_eq] at hwf
  obtain ⟨⟨⟨⟨⟨⟨_, _⟩, _⟩, hkl⟩, _⟩, _⟩, hwk⟩ := hwf
  obtain ⟨L, N0, K0, rfl, hx⟩ := six_of hcs
  obtain ⟨L, hLe⟩ : ∃ L, cs.map lift = L := ⟨_, rfl⟩
  rw [hLe] at hx ⊢
  obtain ⟨h6, hg, c0, c1, c2, c3, c4, c5, hT, hK, hN⟩ := hx
  obtain ⟨l1, l2, l3⟩ := h.live hl
  have hik := h.ne
  simp +decide -implicitDefEqProofs only [stp,code_seq,evWanted,evOp,val,absV,evBin,evConv,evBuiltin,cmpInt,vals,partsOf,isAggD,cellsOf,isAggV,Nat.reduceEqDiff,Nat.reduceLT,Nat.reduceBEq,Nat.reduceBNe,reduceCtorEq,if_true,if_false,reduceIte,forall_const,IntKind.bits,IntKind.signed,eq_self_iff_true,finalOf,resultOf,cellsGood,AC.isCell,senv_mem,lift, Tryz.f35, ty3,ty4,ty5,ty9,ty21,ty22,ty33,ty34,ty23,ty36,ty40,ty73,ty71,ty75,ty80,ty77,ty90, none1, h6, hg, c0, c5]
  refine call_mono (only_ok (a : Int) _ _) fun v d1 n1 hR hl1 hle1 hok => ?_
  obtain ⟨hk1, j0, hj0, rfl, hh0⟩ := hR
  have hkd : Keeps d n d1 := (((Keeps.refl d n).cons (Nat.le_refl n)).trans hk1 (by omega))
  have gn : get [d1] n = some (.cells 36 L) := by rw [hk1 n (by omega), get_cons, if_pos rfl]
  have hh0' : HoldsN d1 j0 (fun y => y = a) := Holds.congr hh0 fun z => ⟨fun e => ⟨a, rfl, e⟩, fun ⟨p, h1, h2⟩ => by rw [h2, h1]⟩
  have hla0 := Later.keep h hl hkd
  simp +decide -implicitDefEqProofs only [stp,code_seq,evWanted,evOp,val,absV,evBin,evConv,evBuiltin,cmpInt,vals,partsOf,isAggD,cellsOf,isAggV,Nat.reduceEqDiff,Nat.reduceLT,Nat.reduceBEq,Nat.reduceBNe,reduceCtorEq,if_true,if_false,reduceIte,forall_const,IntKind.bits,IntKind.signed,eq_self_iff_true,finalOf,resultOf,cellsGood,AC.isCell,senv_mem,lift, ty3,ty4,ty5,ty9,ty21,ty22,ty33,ty34,ty23,ty36,ty40,ty73,ty71,ty75,ty80,ty77,ty90, none1, gn, c5]
  rcases hK with ⟨rfl, rfl⟩ | ⟨b, cap, rfl, hkid⟩
  · simp +decide -implicitDefEqProofs only [stp,code_seq,evWanted,evOp,val,absV,evBin,evConv,evBuiltin,cmpInt,vals,partsOf,isAggD,cellsOf,isAggV,Nat.reduceEqDiff,Nat.reduceLT,Nat.reduceBEq,Nat.reduceBNe,reduceCtorEq,if_true,if_false,reduceIte,forall_const,IntKind.bits,IntKind.signed,eq_self_iff_true,finalOf,resultOf,cellsGood,AC.isCell,senv_mem,lift, ty3,ty4,ty5,ty9,ty21,ty22,ty33,ty34,ty23,ty36,ty40,ty73,ty71,ty75,ty80,ty77,ty90, none1]
    refine code_loop senv_ok none1_ok (fun q sl d' n' => d' = d1 ∧ sl.nt = 133 ∧ sl.get 10 = .c (.mref j0) ∧ sl.get 42 = .c (.int .i64 0) ∧ sl.get 43 = .c (.int .i64 0)) 0 ?_ ?_
    · refine ⟨rfl, rfl, ?_⟩
      simp +decide -implicitDefEqProofs only [stp,code_seq,evWanted,evOp,val,absV,evBin,evConv,evBuiltin,cmpInt,vals,partsOf,isAggD,cellsOf,isAggV,Nat.reduceEqDiff,Nat.reduceLT,Nat.reduceBEq,Nat.reduceBNe,reduceCtorEq,if_true,if_false,reduceIte,forall_const,IntKind.bits,IntKind.signed,eq_self_iff_true,finalOf,resultOf,cellsGood,AC.isCell,senv_mem,lift]
    · rintro q sl _ n' ⟨rfl, hnt, g7, g23, g24⟩ hl1 hs1 Q' hQ1 hQ2
      have hi : ¬ (0 : Int) < 0 := by omega
      simp +decide -implicitDefEqProofs only [stp,code_seq,evWanted,evOp,val,absV,evBin,evConv,evBuiltin,cmpInt,vals,partsOf,isAggD,cellsOf,isAggV,Nat.reduceEqDiff,Nat.reduceLT,Nat.reduceBEq,Nat.reduceBNe,reduceCtorEq,if_true,if_false,reduceIte,forall_const,IntKind.bits,IntKind.signed,eq_self_iff_true,finalOf,resultOf,cellsGood,AC.isCell,senv_mem,lift, ty3,ty4,ty5,ty9,ty21,ty22,ty33,ty34,ty23,ty36,ty40,ty73,ty71,ty75,ty80,ty77,ty90, hnt, g23, g24, hi]
      refine hQ2 _ _ _ _ (by simp) ?_
      simp +decide -implicitDefEqProofs only [stp,code_seq,evWanted,evOp,val,absV,evBin,evConv,evBuiltin,cmpInt,vals,partsOf,isAggD,cellsOf,isAggV,Nat.reduceEqDiff,Nat.reduceLT,Nat.reduceBEq,Nat.reduceBNe,reduceCtorEq,if_true,if_false,reduceIte,forall_const,IntKind.bits,IntKind.signed,eq_self_iff_true,finalOf,resultOf,cellsGood,AC.isCell,senv_mem,lift, Tryz.f35, ty3,ty4,ty5,ty9,ty21,ty22,ty33,ty34,ty23,ty36,ty40,ty73,ty71,ty75,ty80,ty77,ty90, hnt, g7]
      refine hQ _ _ _ _ (.c (.mref j0)) (by simp) ?_ ⟨j0, es, gr, rfl, hla0, hh0'.congr (fun x => ?_), cov_seq trivial⟩
      · simp +decide -implicitDefEqProofs only [stp,code_seq,evWanted,evOp,val,absV,evBin,evConv,evBuiltin,cmpInt,vals,partsOf,isAggD,cellsOf,isAggV,Nat.reduceEqDiff,Nat.reduceLT,Nat.reduceBEq,Nat.reduceBNe,reduceCtorEq,if_true,if_false,reduceIte,forall_const,IntKind.bits,IntKind.signed,eq_self_iff_true,finalOf,resultOf,cellsGood,AC.isCell,senv_mem,lift, Tryz.f35, hnt]
      · rw [den_mk]
        simp [denAll]
  · simp +decide -implicitDefEqProofs only [stp,code_seq,evWanted,evOp,val,absV,evBin,evConv,evBuiltin,cmpInt,vals,partsOf,isAggD,cellsOf,isAggV,Nat.reduceEqDiff,Nat.reduceLT,Nat.reduceBEq,Nat.reduceBNe,reduceCtorEq,if_true,if_false,reduceIte,forall_const,IntKind.bits,IntKind.signed,eq_self_iff_true,finalOf,resultOf,cellsGood,AC.isCell,senv_mem,lift, ty3,ty4,ty5,ty9,ty21,ty22,ty33,ty34,ty23,ty36,ty40,ty73,ty71,ty75,ty80,ty77,ty90, none1]
    refine code_loop senv_ok none1_ok (fun q sl d' n' => sl.nt = 133 ∧ n1 ≤ n' ∧ sl.get 0 = .c (.ptr ix 0) ∧ sl.get 41 = .c (.raw (.slice (some ⟨b, 0, none⟩) kids.length cap)) ∧ sl.get 42 = .c (.int .i64 kids.length) ∧
      ∃ (i jn : Nat) (es' : List KE) (gr' : Bool) (S : Nat → Prop), i + q = kids.length ∧ sl.get 10 = .c (.mref jn) ∧ sl.get 43 = .c (.int .i64 i) ∧ Later s utf NM ix k d n es gr M d' es' gr' ∧ HoldsN d' jn S ∧ (∀ b, S b → b ≤ s.length) ∧
        (∀ x, denAll s utf M kids (fun y => y = a) x ↔ denAll s utf M (kids.drop i) S x) ∧ ∀ dom : List UInt8 → Nat → Prop, (∀ nm b, domOf es' nm b → dom nm b) → CovAll s utf dom M (kids.drop i) S → CovAll s utf dom M kids (fun y => y = a)) kids.length ?_ ?_
    · refine ⟨rfl, by omega, ?_⟩
      simp +decide -implicitDefEqProofs only [stp,code_seq,evWanted,evOp,val,absV,evBin,evConv,evBuiltin,cmpInt,vals,partsOf,isAggD,cellsOf,isAggV,Nat.reduceEqDiff,Nat.reduceLT,Nat.reduceBEq,Nat.reduceBNe,reduceCtorEq,if_true,if_false,reduceIte,forall_const,IntKind.bits,IntKind.signed,eq_self_iff_true,finalOf,resultOf,cellsGood,AC.isCell,senv_mem,lift]
      exact ⟨0, j0, es, gr, fun y => y = a, by omega, rfl, rfl, hla0, hh0', fun b hb => by omega, fun x => Iff.rfl, fun dom _ hc => hc⟩
    · rintro q sl d' n' ⟨hnt, hn', g0, g41, g42, i, jn, es', gr', S, hiq, g10, g43, hla, hh, hS, hden, hcov⟩ hl2 hs2 Q' hQ1 hQ2
      by_cases hi : (i : Int) < kids.length
      · have hi0 : (0 : Int) ≤ i := by omega
        have hi' : i < kids.length := by omega
        have hie : kids[i]? = some kids[i] := List.getElem?_eq_getElem hi'
        have hin : kids[i] ∈ kids := List.getElem_mem hi'
        obtain ⟨ks, hks, hex⟩ := hkid i _ hie
        have hih := fun d n es gr (h : Kst s utf NM ix k d es M gr) (hp : HoldsN d jn S) => from_ok (B0 := B0) (n := n) (gr := gr) (es := es) (ih kids[i] hin) hex (wfAll_mem hwk _ hin) h hp hS
        have q6 : (ks.map lift).length = 6 := by simp [(exAt_six hex).1]
        have qg : (ks.map lift).all AC.isCell = true := (exAt_six hex).2
        generalize ks.map lift = L' at hks hih q6 qg
        have qT : List.take 6 L' = L' := List.take_of_length_le (by omega)
        simp +decide -implicitDefEqProofs only [stp,code_seq,evWanted,evOp,val,absV,evBin,evConv,evBuiltin,cmpInt,vals,partsOf,isAggD,cellsOf,isAggV,Nat.reduceEqDiff,Nat.reduceLT,Nat.reduceBEq,Nat.reduceBNe,reduceCtorEq,if_true,if_false,reduceIte,forall_const,IntKind.bits,IntKind.signed,eq_self_iff_true,finalOf,resultOf,cellsGood,AC.isCell,senv_mem,lift, ty3,ty4,ty5,ty9,ty21,ty22,ty33,ty34,ty23,ty36,ty40,ty73,ty71,ty75,ty80,ty77,ty90, none1, hnt, g0, g10, g41, g42, g43, hi, hi0, Int.toNat_natCast, hks, q6, qg, qT, spliceAll,allFields,places,splice,List.take_zero,List.take_succ_cons,List.take_nil,List.drop_zero,List.drop_succ_cons,List.drop_nil,List.nil_append,List.append_nil,List.cons_append,List.all_cons,List.all_nil,Option.isSome_some,Nat.reduceAdd,Nat.reduceSub,Nat.reduceMul,Nat.reduceMod,Nat.reduceLeDiff,List.range,List.range.loop,List.map_cons,List.map_nil,pfind]
        have hkn : Keeps d' n' ((n', some (AObj.cells 36 L')) :: (n', some (AObj.cells 36 [.int .i64 0, .str [], .sl0, .int .i64 0, .int .i64 0, .sl0])) :: d') := (((Keeps.refl d' n').cons (Nat.le_refl n')).cons (Nat.le_refl n'))
        have hla1 := hla.trans (Later.keep hla.st hl2 hkn) (by omega)
        obtain ⟨kj, cj, gj, _⟩ := id hh
        have ljn := (hl2 jn _ gj).1
        refine call_mono (hih _ _ es' gr' hla1.st (hh.at_ (hkn jn ljn))) fun v d2 n2 hR hl3 hle3 hok3 => ?_
        obtain ⟨j2, es2, gr2, rfl, hj2, hid2, hla2, hden2, hcov2⟩ := hR
        have hdr : kids.drop i = kids[i] :: kids.drop (i + 1) := List.drop_eq_getElem_cons hi'
        simp +decide -implicitDefEqProofs only [stp,code_seq,evWanted,evOp,val,absV,evBin,evConv,evBuiltin,cmpInt,vals,partsOf,isAggD,cellsOf,isAggV,Nat.reduceEqDiff,Nat.reduceLT,Nat.reduceBEq,Nat.reduceBNe,reduceCtorEq,if_true,if_false,reduceIte,forall_const,IntKind.bits,IntKind.signed,eq_self_iff_true,finalOf,resultOf,cellsGood,AC.isCell,senv_mem,lift, ty3,ty4,ty5,ty9,ty21,ty22,ty33,ty34,ty23,ty36,ty40,ty73,ty71,ty75,ty80,ty77,ty90, none1, hnt, g43]
        refine hQ1 (q - 1) _ _ _ (by omega) ⟨by simp only [nt_put, hnt], by omega, ?_⟩
        simp +decide -implicitDefEqProofs only [stp,code_seq,evWanted,evOp,val,absV,evBin,evConv,evBuiltin,cmpInt,vals,partsOf,isAggD,cellsOf,isAggV,Nat.reduceEqDiff,Nat.reduceLT,Nat.reduceBEq,Nat.reduceBNe,reduceCtorEq,if_true,if_false,reduceIte,forall_const,IntKind.bits,IntKind.signed,eq_self_iff_true,finalOf,resultOf,cellsGood,AC.isCell,senv_mem,lift, hnt, g0, g41, g42]
        refine ⟨i + 1, j2, es2, gr2, _, by omega, rfl, by rw [wrap_succ (by omega)], hla1.trans hla2 (by omega), hden2, ?_, fun x => ?_, fun dom hd hc => ?_⟩
        · rintro y ⟨b, hb, hy⟩
          exact den_le h.known.le _ b y (hS b hb) hy
        · rw [hden x, hdr]; simp only [denAll]
        · refine hcov dom (fun nm b hb => hd nm b (hla2.dom hb)) ?_
          rw [hdr]
          exact ⟨fun b hb => (hcov2 b hb).mono hd, hc⟩
      · simp +decide -implicitDefEqProofs only [stp,code_seq,evWanted,evOp,val,absV,evBin,evConv,evBuiltin,cmpInt,vals,partsOf,isAggD,cellsOf,isAggV,Nat.reduceEqDiff,Nat.reduceLT,Nat.reduceBEq,Nat.reduceBNe,reduceCtorEq,if_true,if_false,reduceIte,forall_const,IntKind.bits,IntKind.signed,eq_self_iff_true,finalOf,resultOf,cellsGood,AC.isCell,senv_mem,lift, ty3,ty4,ty5,ty9,ty21,ty22,ty33,ty34,ty23,ty36,ty40,ty73,ty71,ty75,ty80,ty77,ty90, hnt, g42, g43, hi]
        refine hQ2 _ _ _ _ (by simp) ?_
        have hall : kids.drop i = [] := List.drop_eq_nil_of_le (by omega)
        rw [hall] at hden hcov
        simp +decide -implicitDefEqProofs only [stp,code_seq,evWanted,evOp,val,absV,evBin,evConv,evBuiltin,cmpInt,vals,partsOf,isAggD,cellsOf,isAggV,Nat.reduceEqDiff,Nat.reduceLT,Nat.reduceBEq,Nat.reduceBNe,reduceCtorEq,if_true,if_false,reduceIte,forall_const,IntKind.bits,IntKind.signed,eq_self_iff_true,finalOf,resultOf,cellsGood,AC.isCell,senv_mem,lift, Tryz.f35, ty3,ty4,ty5,ty9,ty21,ty22,ty33,ty34,ty23,ty36,ty40,ty73,ty71,ty75,ty80,ty77,ty90, hnt, g10]
        refine hQ _ _ _ _ (.c (.mref jn)) (by simp) ?_ ⟨jn, es', gr', rfl, hla, hh.congr fun x => ?_, cov_seq (hcov _ (fun _ _ h => h) trivial)⟩
        · simp +decide -implicitDefEqProofs only [stp,code_seq,evWanted,evOp,val,absV,evBin,evConv,evBuiltin,cmpInt,vals,partsOf,isAggD,cellsOf,isAggV,Nat.reduceEqDiff,Nat.reduceLT,Nat.reduceBEq,Nat.reduceBNe,reduceCtorEq,if_true,if_false,reduceIte,forall_const,IntKind.bits,IntKind.signed,eq_self_iff_true,finalOf,resultOf,cellsGood,AC.isCell,senv_mem,lift, Tryz.f35, hnt]
        · rw [den_mk]
          simp only [show ¬ (2 : Int) = 1 by decide, if_false, if_true]
          rw [hden x]; simp only [denAll]

end Go.Proofs.YtdpielghjaehbaaGreat.Ev
