/- sense: from some places on. -/
import Derived.Test.YtdpielghjaehbaaSi
set_option linter.unusedSectionVars false
set_option linter.unusedSimpArgs false
set_option linter.unusedVariables false
namespace Go.Proofs.Ytdpielghjaehbaa.Ev

/-- The contract of ends, for one expression. -/
def EndsOk (w0 : World) (Bx : Nat) (s : List UInt8) (utf : Bool) (NM : List (List UInt8)) (e : Ex) : Prop :=
  ∀ (B0 : Nat) (cs : List Value) (ix k : Nat) (d : Seg) (n : Nat) (es : List KE) (M : Kn) (gr : Bool) (a : Nat), ExAt w0 Bx e cs → wfEx NM e = true → Kst s utf NM ix k d es M gr → a ≤ s.length →
    CallsA Try.prog (senv (memOf w0)) B0 25 [.c (.ptr ix 0), .agg (cs.map lift), .c (.int .i64 a)] d n fun v d' n' => ∃ j es' gr', v = .c (.mref j) ∧ Later s utf NM ix k d n es gr M d' es' gr' ∧
      HoldsN d' j (den s utf M e a) ∧ Cov s utf (domOf es') M e a

section
variable {s : List UInt8} {utf : Bool} {NM : List (List UInt8)} {ix k : Nat} {d d' : Seg} {n : Nat} {es es' : List KE} {M : Kn} {gr gr' : Bool}

theorem HoldsN.le {j : Nat} {S : Nat → Prop} {ks : List (Int × Nat)} {c : Nat} (h : get [d] j = some (.pm ks c)) (hS : HoldsN d j S) : Wf ks c ∧ ∀ p ∈ ks, ∃ a : Nat, p.1 = a ∧ S a := by
  obtain ⟨ks', c', h1, h2, h3⟩ := hS
  rw [h] at h1
  simp only [Option.some.injEq, AObj.pm.injEq] at h1
  obtain ⟨rfl, rfl⟩ := h1
  refine ⟨h2, fun p hp => ?_⟩
  obtain ⟨a, ha, he⟩ := (h3 p.1).1 (List.mem_map_of_mem hp)
  exact ⟨a, he, ha⟩

end

theorem Kst.set_kind {s : List UInt8} {utf : Bool} {NM : List (List UInt8)} {ix k : Nat} {d : Seg} {es : List KE} {M : Kn} {gr : Bool} (h : Kst s utf NM ix k d es M gr) {e : KE} (he : e ∈ es) {j : Nat} {o : AObj} (ho : get [d] j = some o) (hno : ∀ ks c, o ≠ .pm ks c) : setOf e ≠ j := by
  rintro rfl
  obtain ⟨ks, c, h1, _⟩ := h.known.sets e he
  rw [h1] at ho
  simp only [Option.some.injEq] at ho
  exact hno ks c ho.symm

theorem stamp_inj {ks : List (Int × Nat)} (hn : (ks.map (·.2)).Nodup) {p q : Int × Nat} (hp : p ∈ ks) (hq : q ∈ ks) (e : p.2 = q.2) : p = q := by
  have h1 := find_stamp hn hp
  rw [e, find_stamp hn hq] at h1
  simpa using h1.symm

theorem getv_cons {j i : Nat} {o : Option AObj} {d : Seg} {v : Option AObj} (hj : ¬ j = i) (h : get [d] i = v) : get [(j, o) :: d] i = v := by rw [get_cons, if_neg hj]; exact h

set_option maxRecDepth 20000 in
theorem from_ok {w0 : World} {Bx B0 : Nat} {s : List UInt8} {utf : Bool} {NM : List (List UInt8)} {e : Ex} (he : EndsOk w0 Bx s utf NM e) {cs : List Value} {ix k jp : Nat} {d : Seg} {n : Nat} {es : List KE} {M : Kn} {gr : Bool} {S : Nat → Prop} (hcs : ExAt w0 Bx e cs) (hwf : wfEx NM e = true)
    (h : Kst s utf NM ix k d es M gr) (hp : HoldsN d jp S) (hS : ∀ a, S a → a ≤ s.length) :
    CallsA Try.prog (senv (memOf w0)) B0 46 [.c (.ptr ix 0), .agg (cs.map lift), .c (.mref jp)] d n fun v d' n' => ∃ j es' gr', v = .c (.mref j) ∧ n ≤ j ∧ (∀ e ∈ es', setOf e ≠ j) ∧ Later s utf NM ix k d n es gr M d' es' gr' ∧
      HoldsN d' j (img (den s utf M e) S) ∧ ∀ a, S a → Cov s utf (domOf es') M e a := by
  refine callsA_code senv_ok none1_ok Try.func46 rfl (by decide) rfl rfl (by simp) fun hl _ Q hQ => ?_
  obtain ⟨kt, cj, gj, hwj, hmem⟩ := hp
  have hpS := (HoldsN.le gj ⟨kt, cj, gj, hwj, hmem⟩).2
  obtain ⟨h6, hg⟩ := exAt_six hcs
  have hee := fun d n es gr a (h : Kst s utf NM ix k d es M gr) (ha : a ≤ s.length) => he B0 cs ix k d n es M gr a hcs hwf h ha
  have hL : (cs.map lift).length = 6 := by simp [h6]
  generalize cs.map lift = L at hg hee hL
  have hT : List.take 6 L = L := List.take_of_length_le (by omega)
  have hg' : L.all AC.isCell = true := hg
  obtain ⟨l1, l2, l3⟩ := h.live hl
  have ljp := (hl jp _ gj).1
  have n1 : ¬ n = jp := by omega
  have n2 : ¬ n + 1 = jp := by omega
  have hik := h.ne
  simp +decide -implicitDefEqProofs only [code_skip,code_label,code_region,code_seq,code_block,code_exit,code_ret,code_cond,back_nil,back_seq,back_seq_exit,back_seq_ret,back_block,back_block_exit,back_block_ret,ops_nil,ops_cons,want_true,want_false,op_some,op_none,else_call,else_clo,clo_some,else_next,vals_some,it_some,cond_some,evWanted,evOp,val_tmp,val,absV,get_args,get_put,nt_put,put_none,evBin,evConv,evBuiltin,cmpInt,vals,partsOf,isAggD,cellsOf,isAggV,List.getElem?_cons_zero,List.getElem?_cons_succ,List.getElem?_nil,Option.getD_some,Option.getD_none,Nat.reduceEqDiff,Nat.reduceLT,Nat.reduceBEq,Nat.reduceBNe,reduceCtorEq,if_true,if_false,and_true,true_and,and_false,false_and,and_self,reduceIte,Bool.false_eq_true,forall_const,beqT,beqF,Bool.not_true,Bool.not_false,false_implies,true_implies,decide_true,decide_false,IntKind.bits,IntKind.signed,eq_self_iff_true,beq_self_eq_true,Bool.and_true,Bool.true_and,Bool.and_self,BEq.rfl,List.toList_toArray,finalOf,resultOf,List.length_cons,List.length_nil,List.length_map,List.length_replicate,cellsGood,List.all_cons,List.all_nil,AC.isCell,Nat.zero_add,Nat.mul_one,bne_self_eq_false,get_cons,List.getD_cons_zero,senv_mem,lift, Try.f46, ty3,ty4,ty5,ty9,ty21,ty27,ty24,ty35,ty29,ty37,ty39,ty53,ty51,ty55,ty60,ty57,ty71, none1, hL, hg', n1, n2, gj]
  refine code_loop senv_ok none1_ok (fun q sl d' n' => sl.nt = 23 ∧ n + 3 ≤ n' ∧ sl.get 0 = .c (.ptr ix 0) ∧ sl.get 4 = .c (.ptr n 0) ∧ sl.get 7 = .c (.mref (n + 1)) ∧ sl.get 11 = .c (.ptr (n + 2) 0) ∧ get [d'] n = some (.cells 37 L) ∧
    ∃ was es' gr', q = left kt was ∧ get [d'] (n + 2) = some (.mit jp cj was cj) ∧ Later s utf NM ix k d n es gr M d' es' gr' ∧ (∀ e ∈ es', setOf e ≠ n + 1) ∧ get [d'] jp = some (.pm kt cj) ∧
      HoldsN d' (n + 1) (fun x => ∃ p ∈ kt, p.2 ∈ was ∧ den s utf M e p.1.toNat x) ∧ ∀ p ∈ kt, p.2 ∈ was → Cov s utf (domOf es') M e p.1.toNat) (left kt []) ?_ ?_
  · refine ⟨rfl, by omega, ?_⟩
    simp +decide -implicitDefEqProofs only [code_skip,code_label,code_region,code_seq,code_block,code_exit,code_ret,code_cond,back_nil,back_seq,back_seq_exit,back_seq_ret,back_block,back_block_exit,back_block_ret,ops_nil,ops_cons,want_true,want_false,op_some,op_none,else_call,else_clo,clo_some,else_next,vals_some,it_some,cond_some,evWanted,evOp,val_tmp,val,absV,get_args,get_put,nt_put,put_none,evBin,evConv,evBuiltin,cmpInt,vals,partsOf,isAggD,cellsOf,isAggV,List.getElem?_cons_zero,List.getElem?_cons_succ,List.getElem?_nil,Option.getD_some,Option.getD_none,Nat.reduceEqDiff,Nat.reduceLT,Nat.reduceBEq,Nat.reduceBNe,reduceCtorEq,if_true,if_false,and_true,true_and,and_false,false_and,and_self,reduceIte,Bool.false_eq_true,forall_const,beqT,beqF,Bool.not_true,Bool.not_false,false_implies,true_implies,decide_true,decide_false,IntKind.bits,IntKind.signed,eq_self_iff_true,beq_self_eq_true,Bool.and_true,Bool.true_and,Bool.and_self,BEq.rfl,List.toList_toArray,finalOf,resultOf,List.length_cons,List.length_nil,List.length_map,List.length_replicate,cellsGood,List.all_cons,List.all_nil,AC.isCell,Nat.zero_add,Nat.mul_one,bne_self_eq_false,get_cons,List.getD_cons_zero,senv_mem,lift]
    refine ⟨by rw [if_neg (by omega), if_neg (by omega)], [], es, gr, rfl, rfl, ?_, fun e he => by have := l3 e he; omega, by rw [if_neg (by omega), if_neg n2, if_neg n1]; exact gj, ?_, by simp⟩
    · exact Later.keep h hl ((((Keeps.refl d n).cons (Nat.le_refl n)).cons (by omega)).cons (by omega))
    · exact holdsN_nil (by rw [get_cons, if_neg (by omega), get_cons, if_pos rfl]) (by simp)
  · rintro q sl d' n' ⟨hnt, hn', g0, g4, g7, g11, gn, was, es', gr', rfl, gi, hla, hid, gj', hout, hcov⟩ hl1 hs1 Q' hQ1 hQ2
    simp +decide -implicitDefEqProofs only [code_skip,code_label,code_region,code_seq,code_block,code_exit,code_ret,code_cond,back_nil,back_seq,back_seq_exit,back_seq_ret,back_block,back_block_exit,back_block_ret,ops_nil,ops_cons,want_true,want_false,op_some,op_none,else_call,else_clo,clo_some,else_next,vals_some,it_some,cond_some,evWanted,evOp,val_tmp,val,absV,get_args,get_put,nt_put,put_none,evBin,evConv,evBuiltin,cmpInt,vals,partsOf,isAggD,cellsOf,isAggV,List.getElem?_cons_zero,List.getElem?_cons_succ,List.getElem?_nil,Option.getD_some,Option.getD_none,Nat.reduceEqDiff,Nat.reduceLT,Nat.reduceBEq,Nat.reduceBNe,reduceCtorEq,if_true,if_false,and_true,true_and,and_false,false_and,and_self,reduceIte,Bool.false_eq_true,forall_const,beqT,beqF,Bool.not_true,Bool.not_false,false_implies,true_implies,decide_true,decide_false,IntKind.bits,IntKind.signed,eq_self_iff_true,beq_self_eq_true,Bool.and_true,Bool.true_and,Bool.and_self,BEq.rfl,List.toList_toArray,finalOf,resultOf,List.length_cons,List.length_nil,List.length_map,List.length_replicate,cellsGood,List.all_cons,List.all_nil,AC.isCell,Nat.zero_add,Nat.mul_one,bne_self_eq_false,get_cons,List.getD_cons_zero,senv_mem,lift, ty3,ty4,ty5,ty9,ty21,ty27,ty24,ty35,ty29,ty37,ty39,ty53,ty51,ty55,ty60,ty57,ty71, hnt, g0, g4, g7, g11]
    refine ⟨jp, cj, was, cj, kt, cj, gi, gj', hwj.born, Nat.le_refl _, fun hdone => ?_, fun p hp hnot => ?_⟩
    · simp +decide -implicitDefEqProofs only [code_skip,code_label,code_region,code_seq,code_block,code_exit,code_ret,code_cond,back_nil,back_seq,back_seq_exit,back_seq_ret,back_block,back_block_exit,back_block_ret,ops_nil,ops_cons,want_true,want_false,op_some,op_none,else_call,else_clo,clo_some,else_next,vals_some,it_some,cond_some,evWanted,evOp,val_tmp,val,absV,get_args,get_put,nt_put,put_none,evBin,evConv,evBuiltin,cmpInt,vals,partsOf,isAggD,cellsOf,isAggV,List.getElem?_cons_zero,List.getElem?_cons_succ,List.getElem?_nil,Option.getD_some,Option.getD_none,Nat.reduceEqDiff,Nat.reduceLT,Nat.reduceBEq,Nat.reduceBNe,reduceCtorEq,if_true,if_false,and_true,true_and,and_false,false_and,and_self,reduceIte,Bool.false_eq_true,forall_const,beqT,beqF,Bool.not_true,Bool.not_false,false_implies,true_implies,decide_true,decide_false,IntKind.bits,IntKind.signed,eq_self_iff_true,beq_self_eq_true,Bool.and_true,Bool.true_and,Bool.and_self,BEq.rfl,List.toList_toArray,finalOf,resultOf,List.length_cons,List.length_nil,List.length_map,List.length_replicate,cellsGood,List.all_cons,List.all_nil,AC.isCell,Nat.zero_add,Nat.mul_one,bne_self_eq_false,get_cons,List.getD_cons_zero,senv_mem,lift, ty3,ty4,ty5,ty9,ty21,ty27,ty24,ty35,ty29,ty37,ty39,ty53,ty51,ty55,ty60,ty57,ty71, hnt, g0, g7]
      refine hQ2 _ _ _ _ (by simp) ?_
      simp +decide -implicitDefEqProofs only [code_skip,code_label,code_region,code_seq,code_block,code_exit,code_ret,code_cond,back_nil,back_seq,back_seq_exit,back_seq_ret,back_block,back_block_exit,back_block_ret,ops_nil,ops_cons,want_true,want_false,op_some,op_none,else_call,else_clo,clo_some,else_next,vals_some,it_some,cond_some,evWanted,evOp,val_tmp,val,absV,get_args,get_put,nt_put,put_none,evBin,evConv,evBuiltin,cmpInt,vals,partsOf,isAggD,cellsOf,isAggV,List.getElem?_cons_zero,List.getElem?_cons_succ,List.getElem?_nil,Option.getD_some,Option.getD_none,Nat.reduceEqDiff,Nat.reduceLT,Nat.reduceBEq,Nat.reduceBNe,reduceCtorEq,if_true,if_false,and_true,true_and,and_false,false_and,and_self,reduceIte,Bool.false_eq_true,forall_const,beqT,beqF,Bool.not_true,Bool.not_false,false_implies,true_implies,decide_true,decide_false,IntKind.bits,IntKind.signed,eq_self_iff_true,beq_self_eq_true,Bool.and_true,Bool.true_and,Bool.and_self,BEq.rfl,List.toList_toArray,finalOf,resultOf,List.length_cons,List.length_nil,List.length_map,List.length_replicate,cellsGood,List.all_cons,List.all_nil,AC.isCell,Nat.zero_add,Nat.mul_one,bne_self_eq_false,get_cons,List.getD_cons_zero,senv_mem,lift, Try.f46, ty3,ty4,ty5,ty9,ty21,ty27,ty24,ty35,ty29,ty37,ty39,ty53,ty51,ty55,ty60,ty57,ty71, hnt, g7]
      refine hQ _ _ _ _ (.c (.mref (n + 1))) (by simp) ?_ ⟨n + 1, es', gr', rfl, by omega, hid, hla, hout.congr fun x => ?_, fun a ha => ?_⟩
      · simp +decide -implicitDefEqProofs only [code_skip,code_label,code_region,code_seq,code_block,code_exit,code_ret,code_cond,back_nil,back_seq,back_seq_exit,back_seq_ret,back_block,back_block_exit,back_block_ret,ops_nil,ops_cons,want_true,want_false,op_some,op_none,else_call,else_clo,clo_some,else_next,vals_some,it_some,cond_some,evWanted,evOp,val_tmp,val,absV,get_args,get_put,nt_put,put_none,evBin,evConv,evBuiltin,cmpInt,vals,partsOf,isAggD,cellsOf,isAggV,List.getElem?_cons_zero,List.getElem?_cons_succ,List.getElem?_nil,Option.getD_some,Option.getD_none,Nat.reduceEqDiff,Nat.reduceLT,Nat.reduceBEq,Nat.reduceBNe,reduceCtorEq,if_true,if_false,and_true,true_and,and_false,false_and,and_self,reduceIte,Bool.false_eq_true,forall_const,beqT,beqF,Bool.not_true,Bool.not_false,false_implies,true_implies,decide_true,decide_false,IntKind.bits,IntKind.signed,eq_self_iff_true,beq_self_eq_true,Bool.and_true,Bool.true_and,Bool.and_self,BEq.rfl,List.toList_toArray,finalOf,resultOf,List.length_cons,List.length_nil,List.length_map,List.length_replicate,cellsGood,List.all_cons,List.all_nil,AC.isCell,Nat.zero_add,Nat.mul_one,bne_self_eq_false,get_cons,List.getD_cons_zero,senv_mem,lift, Try.f46, hnt]
      · constructor
        · rintro ⟨p, hp, _, hx⟩
          obtain ⟨a, ha, hSa⟩ := hpS p hp
          rw [ha, Int.toNat_natCast] at hx
          exact ⟨a, hSa, hx⟩
        · rintro ⟨a, ha, hx⟩
          have : (a : Int) ∈ keysOf kt := (hmem a).2 ⟨a, ha, rfl⟩
          obtain ⟨p, hp, he⟩ := List.mem_map.1 this
          exact ⟨p, hp, hdone p hp, by rw [he, Int.toNat_natCast]; exact hx⟩
      · have : (a : Int) ∈ keysOf kt := (hmem a).2 ⟨a, ha, rfl⟩
        obtain ⟨p, hp, he⟩ := List.mem_map.1 this
        have := hcov p hp (hdone p hp)
        rwa [he, Int.toNat_natCast] at this
    · obtain ⟨a, ha, hSa⟩ := hpS p hp
      have hlast : (was ++ [p.2]).getLast? = some p.2 := by simp
      have hfind := find_stamp hwj.stamps hp
      obtain ⟨pz, st⟩ := p
      simp only at ha
      subst ha
      simp only at hlast hfind hnot
      have n3 : ¬ n + 2 = jp := by omega
      have n4 : ¬ n + 2 = n := by omega
      have n5 : ¬ n + 2 = n + 1 := by omega
      simp +decide -implicitDefEqProofs only [code_skip,code_label,code_region,code_seq,code_block,code_exit,code_ret,code_cond,back_nil,back_seq,back_seq_exit,back_seq_ret,back_block,back_block_exit,back_block_ret,ops_nil,ops_cons,want_true,want_false,op_some,op_none,else_call,else_clo,clo_some,else_next,vals_some,it_some,cond_some,evWanted,evOp,val_tmp,val,absV,get_args,get_put,nt_put,put_none,evBin,evConv,evBuiltin,cmpInt,vals,partsOf,isAggD,cellsOf,isAggV,List.getElem?_cons_zero,List.getElem?_cons_succ,List.getElem?_nil,Option.getD_some,Option.getD_none,Nat.reduceEqDiff,Nat.reduceLT,Nat.reduceBEq,Nat.reduceBNe,reduceCtorEq,if_true,if_false,and_true,true_and,and_false,false_and,and_self,reduceIte,Bool.false_eq_true,forall_const,beqT,beqF,Bool.not_true,Bool.not_false,false_implies,true_implies,decide_true,decide_false,IntKind.bits,IntKind.signed,eq_self_iff_true,beq_self_eq_true,Bool.and_true,Bool.true_and,Bool.and_self,BEq.rfl,List.toList_toArray,finalOf,resultOf,List.length_cons,List.length_nil,List.length_map,List.length_replicate,cellsGood,List.all_cons,List.all_nil,AC.isCell,Nat.zero_add,Nat.mul_one,bne_self_eq_false,get_cons,List.getD_cons_zero,senv_mem,lift, ty3,ty4,ty5,ty9,ty21,ty27,ty24,ty35,ty29,ty37,ty39,ty53,ty51,ty55,ty60,ty57,ty71, hnt, g0, g4, g7, g11, none1, hlast, hfind, gn, hT, n3, n4, gj', hL, Nat.le_refl, List.drop_zero]
      have hni : ∀ e ∈ es', setOf e ≠ n + 2 := fun e he => hla.st.set_kind he gi (fun ks c h => by cases h)
      obtain ⟨m1, m2, m3⟩ := hla.st.live hl1
      have hb1 : KeepsBut (n + 2) d' n' ((n + 2, some (AObj.mit jp cj (was ++ [st]) cj)) :: d') := KeepsBut.cons (fun _ _ _ => rfl) (.inl rfl)
      have hla1 := hla.but (j := n + 2) (n1 := n') (by omega) hni (by omega) (by omega) hl1 hb1 (by omega)
      refine call_mono (hee _ n' es' gr' a hla1.st (hS a hSa)) fun v d2 n2 hR hl2 hle2 hok => ?_
      obtain ⟨j2, es2, gr2, rfl, hla2, hden, hcov2⟩ := hR
      simp +decide -implicitDefEqProofs only [code_skip,code_label,code_region,code_seq,code_block,code_exit,code_ret,code_cond,back_nil,back_seq,back_seq_exit,back_seq_ret,back_block,back_block_exit,back_block_ret,ops_nil,ops_cons,want_true,want_false,op_some,op_none,else_call,else_clo,clo_some,else_next,vals_some,it_some,cond_some,evWanted,evOp,val_tmp,val,absV,get_args,get_put,nt_put,put_none,evBin,evConv,evBuiltin,cmpInt,vals,partsOf,isAggD,cellsOf,isAggV,List.getElem?_cons_zero,List.getElem?_cons_succ,List.getElem?_nil,Option.getD_some,Option.getD_none,Nat.reduceEqDiff,Nat.reduceLT,Nat.reduceBEq,Nat.reduceBNe,reduceCtorEq,if_true,if_false,and_true,true_and,and_false,false_and,and_self,reduceIte,Bool.false_eq_true,forall_const,beqT,beqF,Bool.not_true,Bool.not_false,false_implies,true_implies,decide_true,decide_false,IntKind.bits,IntKind.signed,eq_self_iff_true,beq_self_eq_true,Bool.and_true,Bool.true_and,Bool.and_self,BEq.rfl,List.toList_toArray,finalOf,resultOf,List.length_cons,List.length_nil,List.length_map,List.length_replicate,cellsGood,List.all_cons,List.all_nil,AC.isCell,Nat.zero_add,Nat.mul_one,bne_self_eq_false,get_cons,List.getD_cons_zero,senv_mem,lift, ty3,ty4,ty5,ty9,ty21,ty27,ty24,ty35,ty29,ty37,ty39,ty53,ty51,ty55,ty60,ty57,ty71, none1, hnt, g7]
      have hout2 := hout.at_ (d' := d2) (by rw [hla2.keeps (n + 1) (by omega) (by omega) (by omega), get_cons, if_neg n5])
      refine call_mono (add_ok hout2 hden) fun v d3 n3' hR hl3 hle3 hok3 => ?_
      obtain ⟨hk3, hh3, b, rfl, _⟩ := hR
      have hid2 : ∀ e ∈ es2, setOf e ≠ n + 1 := by
        obtain ⟨ex, rfl, hex, _⟩ := hla2.more
        intro e he
        rcases List.mem_append.1 he with he | he
        · exact hid e he
        · have := hex e he; omega
      obtain ⟨w1, w2, w3⟩ := hla2.st.live hl2
      have hla3 := (hla1.trans hla2 (by omega)).but (j := n + 1) (by omega) hid2 (by omega) (by omega) hl2 hk3 (by omega)
      have gn2 : get [d2] n = some (.cells 37 L) := by rw [hla2.keeps n (by omega) (by omega) (by omega)]; exact getv_cons n4 gn
      have gi2 : get [d2] (n + 2) = some (.mit jp cj (was ++ [st]) cj) := by rw [hla2.keeps (n + 2) (by omega) (by omega) (by omega), get_cons, if_pos rfl]
      have gj2 : get [d2] jp = some (.pm kt cj) := by
        have e1 : jp ≠ ix := by rintro rfl; have := h.sense; rw [SenseAt, gj] at this; cases this
        have e2 : jp ≠ k := by rintro rfl; obtain ⟨c, hc, _⟩ := h.known.obj; rw [gj] at hc; cases hc
        rw [hla2.keeps jp (by omega) e1 e2]; exact getv_cons n3 gj'
      simp +decide -implicitDefEqProofs only [code_skip,code_label,code_region,code_seq,code_block,code_exit,code_ret,code_cond,back_nil,back_seq,back_seq_exit,back_seq_ret,back_block,back_block_exit,back_block_ret,ops_nil,ops_cons,want_true,want_false,op_some,op_none,else_call,else_clo,clo_some,else_next,vals_some,it_some,cond_some,evWanted,evOp,val_tmp,val,absV,get_args,get_put,nt_put,put_none,evBin,evConv,evBuiltin,cmpInt,vals,partsOf,isAggD,cellsOf,isAggV,List.getElem?_cons_zero,List.getElem?_cons_succ,List.getElem?_nil,Option.getD_some,Option.getD_none,Nat.reduceEqDiff,Nat.reduceLT,Nat.reduceBEq,Nat.reduceBNe,reduceCtorEq,if_true,if_false,and_true,true_and,and_false,false_and,and_self,reduceIte,Bool.false_eq_true,forall_const,beqT,beqF,Bool.not_true,Bool.not_false,false_implies,true_implies,decide_true,decide_false,IntKind.bits,IntKind.signed,eq_self_iff_true,beq_self_eq_true,Bool.and_true,Bool.true_and,Bool.and_self,BEq.rfl,List.toList_toArray,finalOf,resultOf,List.length_cons,List.length_nil,List.length_map,List.length_replicate,cellsGood,List.all_cons,List.all_nil,AC.isCell,Nat.zero_add,Nat.mul_one,bne_self_eq_false,get_cons,List.getD_cons_zero,senv_mem,lift, ty3,ty4,ty5,ty9,ty21,ty27,ty24,ty35,ty29,ty37,ty39,ty53,ty51,ty55,ty60,ty57,ty71]
      refine hQ1 (left kt (was ++ [st])) _ _ _ (left_lt hp hnot) ⟨by simp only [nt_put, hnt], by omega, ?_⟩
      simp +decide -implicitDefEqProofs only [code_skip,code_label,code_region,code_seq,code_block,code_exit,code_ret,code_cond,back_nil,back_seq,back_seq_exit,back_seq_ret,back_block,back_block_exit,back_block_ret,ops_nil,ops_cons,want_true,want_false,op_some,op_none,else_call,else_clo,clo_some,else_next,vals_some,it_some,cond_some,evWanted,evOp,val_tmp,val,absV,get_args,get_put,nt_put,put_none,evBin,evConv,evBuiltin,cmpInt,vals,partsOf,isAggD,cellsOf,isAggV,List.getElem?_cons_zero,List.getElem?_cons_succ,List.getElem?_nil,Option.getD_some,Option.getD_none,Nat.reduceEqDiff,Nat.reduceLT,Nat.reduceBEq,Nat.reduceBNe,reduceCtorEq,if_true,if_false,and_true,true_and,and_false,false_and,and_self,reduceIte,Bool.false_eq_true,forall_const,beqT,beqF,Bool.not_true,Bool.not_false,false_implies,true_implies,decide_true,decide_false,IntKind.bits,IntKind.signed,eq_self_iff_true,beq_self_eq_true,Bool.and_true,Bool.true_and,Bool.and_self,BEq.rfl,List.toList_toArray,finalOf,resultOf,List.length_cons,List.length_nil,List.length_map,List.length_replicate,cellsGood,List.all_cons,List.all_nil,AC.isCell,Nat.zero_add,Nat.mul_one,bne_self_eq_false,get_cons,List.getD_cons_zero,senv_mem,lift, hnt, g0, g4, g7, g11]
      refine ⟨(hk3 n (by omega) (by omega)).trans gn2, was ++ [st], es2, gr2, rfl, (hk3 _ (by omega) (by omega)).trans gi2, hla3, hid2, (hk3 _ (by omega) (by omega)).trans gj2, ?_, ?_⟩
      · refine Holds.congr hh3 fun z => ?_
        constructor
        · rintro (⟨x, ⟨p, hp', hw, hx⟩, rfl⟩ | ⟨x, hx, rfl⟩)
          · exact ⟨x, ⟨p, hp', List.mem_append_left _ hw, hx⟩, rfl⟩
          · exact ⟨x, ⟨((a : Int), st), hp, by simp, by simpa using hx⟩, rfl⟩
        · rintro ⟨x, ⟨p, hp', hw, hx⟩, rfl⟩
          rcases List.mem_append.1 hw with hw | hw
          · exact .inl ⟨x, ⟨p, hp', hw, hx⟩, rfl⟩
          · simp only [List.mem_singleton] at hw
            have : p = ((a : Int), st) := stamp_inj hwj.stamps hp' hp hw
            subst this
            exact .inr ⟨x, by simpa using hx, rfl⟩
      · intro p hp' hw
        rcases List.mem_append.1 hw with hw | hw
        · exact (hcov p hp' hw).mono fun nm b => hla2.dom
        · simp only [List.mem_singleton] at hw
          have : p = ((a : Int), st) := stamp_inj hwj.stamps hp' hp hw
          subst this
          simpa using hcov2

end Go.Proofs.Ytdpielghjaehbaa.Ev
