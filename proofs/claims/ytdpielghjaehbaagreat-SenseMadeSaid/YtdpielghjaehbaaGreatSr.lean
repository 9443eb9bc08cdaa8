/- sense: the ends of a rule. -/
import Derived.Test.YtdpielghjaehbaaGreatSq
import Derived.Test.YtdpielghjaehbaaGreatKf
set_option linter.unusedSectionVars false
set_option linter.unusedSimpArgs false
set_option linter.unusedVariables false
namespace Go.Proofs.YtdpielghjaehbaaGreat.Ev

/-- Nothing more comes of one rule at one place. -/
def FinAt (g : List Ru) (s : List UInt8) (utf : Bool) (es : List KE) (M : Kn) (nm : List UInt8) (a : Nat) : Prop :=
  ∀ e, ruleOf nm g = some e → ∀ M' : Kn, (∀ nm b x, domOf es nm b → (M' nm b x ↔ M nm b x)) → ∀ x, den s utf M' e a x → M nm a x

theorem ints_le {L : Nat} {l : List Int} (hn : l.Nodup) (h : ∀ x ∈ l, 0 ≤ x ∧ x ≤ L) : l.length ≤ L + 1 := by
  have := keys_le (NM := [[]]) (L := L) (ks := l.map fun x => (([] : List UInt8), x)) ?_ ?_ ?_
  · simpa using this
  · refine List.Pairwise.map _ ?_ hn
    intro a b hab e
    simp only [Prod.mk.injEq, true_and] at e
    exact hab e
  · intro k hk
    obtain ⟨x, _, rfl⟩ := List.mem_map.1 hk
    simp
  · intro k hk
    obtain ⟨x, hx, rfl⟩ := List.mem_map.1 hk
    exact h x hx

section
variable {s : List UInt8} {utf : Bool} {NM : List (List UInt8)} {ix k : Nat} {d d' : Seg} {n : Nat} {es es' ex : List KE} {M : Kn} {gr gr' : Bool}

theorem Kst.setGr (h : Kst s utf NM ix k d es M gr) (b : Bool) : Kst s utf NM ix k ((ix, some (.cells 73 [.str s, .bool utf, .mref k, .bool b])) :: d) es M b := by
  have hne := h.ne
  obtain ⟨c, hc, hb⟩ := h.known.obj
  exact ⟨by rw [SenseAt, get_cons, if_pos rfl], ⟨⟨c, by rw [get_cons, if_neg hne]; exact hc, hb⟩, h.known.stamps, h.known.ids, h.known.keys, fun e he => (h.known.sets e he).at_ (by rw [get_cons, if_neg (fun x => (h.set_ne he).1 x.symm)]), h.known.at_, h.known.names, h.known.dom, h.known.le⟩⟩

theorem new_empty (h : Kst s utf NM ix k d es M gr) (h2 : Kst s utf NM ix k d' (es ++ ex) M gr') : ∀ e ∈ ex, ∀ x, ¬ M e.1 e.2.1.toNat x := by
  intro e he x hx
  have h3 := h.known.dom _ _ _ hx
  have h4 := h2.known.at_ e (List.mem_append_right _ he)
  have e1 : ((e.2.1.toNat : Nat) : Int) = e.2.1 := by omega
  rw [e1] at h3
  have hn := h2.known.keys
  rw [List.map_append] at hn
  exact (List.nodup_append.1 hn).2.2 _ h3 _ (List.mem_map_of_mem he) rfl

end

set_option maxRecDepth 20000 in
set_option maxHeartbeats 4000000 in
theorem ends_abs {w0 : World} {Bx B0 : Nat} {v0 : Value} {g : List Ru} {name s : List UInt8} {utf : Bool} {NM : List (List UInt8)} {d : Seg} {n : Nat} (hv : RulesAt w0 Bx v0 g) (hg : g.length < 4611686018427387904) (hwf : ∀ r ∈ g, wfEx NM r.ex = true) (hname : name ∈ NM)
    (hs0 : s.length < 1000000000) (hbig : NM.length * (s.length + 1) ≤ 1000000000000) :
    CallsA Tryz.prog (senv (memOf w0)) B0 15 [.c (lift v0), .c (.str name), .c (.str s), .c (.bool utf)] d n fun v d' n' => ∃ l : List Int, l.Pairwise (· < ·) ∧ (∀ x, x ∈ l ↔ ∃ p : Nat, Der g s utf name 0 p ∧ x = p) ∧ IntRow d' n v l := by
  refine callsA_code senv_ok none1_ok Tryz.func15 rfl (by decide) rfl rfl (by simp) fun hl ha Q hQ => ?_
  obtain ⟨G, hG⟩ : ∃ G, lift v0 = G := ⟨_, rfl⟩
  rw [hG]
  have hfind : ∀ d n nm, CallsA Tryz.prog (senv (memOf w0)) B0 34 [.c G, .c (.str nm)] d n fun v d' n' => Keeps d n d' ∧ v = .c (.int .i64 (findIx nm g 0)) := fun d n nm => by
    rw [← hG]; exact find_ok hv hg
  have hrule : ∀ nm e, ruleOf nm g = some e → ∃ (b cap i : Nat) (cs : List Value), G = .raw (.slice (some ⟨b, 0, none⟩) g.length cap) ∧ findIx nm g 0 = (i : Int) ∧ i < g.length ∧ memCells (senv (memOf w0)) b (i * 7 + 1) 6 = some (cs.map lift) ∧ ExAt w0 Bx e cs ∧ wfEx NM e = true := fun nm e he => by
    obtain ⟨i, r, h1, h2, h3⟩ := findIx_some (k := 0) he
    obtain ⟨hlt, _⟩ := List.getElem?_eq_some_iff.1 h1
    rcases hv with ⟨rfl, rfl⟩ | ⟨b, cap, _, rfl, hrs⟩
    · simp at hlt
    · obtain ⟨cs, c1, c2, c3⟩ := RuAt.get g b 0 i r hrs h1
      rw [Nat.zero_add] at c2
      have h6 := exAt_six c3
      have hm := memCells_of (mem := memOf w0) (b := b) cs (i * 7 + 1) (fun j v hj => c2 j v hj)
      rw [h6.1] at hm
      exact ⟨b, cap, i, cs, hG.symm.trans rfl, by rw [h3]; simp, hlt, hm, h2 ▸ c3, by rw [← h2]; exact hwf r (List.mem_of_getElem? h1)⟩
  simp +decide -implicitDefEqProofs only [stp,code_seq,evWanted,evOp,val,absV,evBin,evConv,evBuiltin,cmpInt,vals,partsOf,isAggD,cellsOf,isAggV,Nat.reduceEqDiff,Nat.reduceLT,Nat.reduceBEq,Nat.reduceBNe,reduceCtorEq,if_true,if_false,reduceIte,forall_const,IntKind.bits,IntKind.signed,eq_self_iff_true,finalOf,resultOf,cellsGood,AC.isCell,senv_mem,lift, Tryz.f15, ty3,ty4,ty5,ty9,ty21,ty22,ty33,ty34,ty23,ty36,ty40,ty73,ty71,ty75,ty80,ty77,ty90, none1, spliceAll,allFields,places,splice,List.take_zero,List.take_succ_cons,List.take_nil,List.drop_zero,List.drop_succ_cons,List.drop_nil,List.nil_append,List.append_nil,List.cons_append,List.all_cons,List.all_nil,Option.isSome_some,Nat.reduceAdd,Nat.reduceSub,Nat.reduceMul,Nat.reduceMod,Nat.reduceLeDiff,List.range,List.range.loop,List.map_cons,List.map_nil,pfind]
  have hst0 : Kst s utf NM (n + 1) n ((n + 1, some (.cells 73 [.str s, .bool utf, .mref n, .bool false])) :: (n, some (.km [] 0)) :: d) [] (fun _ _ _ => False) false :=
    ⟨by rw [SenseAt, get_cons, if_pos rfl], ⟨⟨0, by rw [get_cons, if_neg (by omega), get_cons, if_pos rfl], by simp⟩, by simp, by simp, by simp, by simp, by simp, by simp, by simp, by simp⟩⟩
  refine call_mono (ref_ok (n := n + 1 + 1) hst0 (Nat.zero_le _) hname) fun v d1 n1 hR hl1 hle1 hok1 => ?_
  obtain ⟨j1, es1, gr1, rfl, hla1, _, hdom1⟩ := hR
  have hgr1 : gr1 = true := by
    obtain ⟨ex, he, _, hx⟩ := hla1.more
    rw [hx]
    refine .inr ?_
    rintro rfl
    rw [he] at hdom1
    simp [domOf] at hdom1
  subst hgr1
  have hst1 := hla1.st
  clear hla1 hst0
  simp +decide -implicitDefEqProofs only [stp,code_seq,evWanted,evOp,val,absV,evBin,evConv,evBuiltin,cmpInt,vals,partsOf,isAggD,cellsOf,isAggV,Nat.reduceEqDiff,Nat.reduceLT,Nat.reduceBEq,Nat.reduceBNe,reduceCtorEq,if_true,if_false,reduceIte,forall_const,IntKind.bits,IntKind.signed,eq_self_iff_true,finalOf,resultOf,cellsGood,AC.isCell,senv_mem,lift, ty3,ty4,ty5,ty9,ty21,ty22,ty33,ty34,ty23,ty36,ty40,ty73,ty71,ty75,ty80,ty77,ty90, none1]
  refine code_loop senv_ok none1_ok (fun q sl d' n' => sl.nt = 80 ∧ n + 2 ≤ n' ∧ sl.get 0 = .c G ∧ sl.get 1 = .c (.str name) ∧ sl.get 9 = .c (.ptr (n + 1) 0) ∧ ∃ (es : List KE) (M : Kn) (gr : Bool), Kst s utf NM (n + 1) n d' es M gr ∧ (∀ nm a x, M nm a x → Der g s utf nm a x) ∧ domOf es name 0 ∧
    (gr = false → ∀ nm a, domOf es nm a → FinAt g s utf es M nm a) ∧ q = 2 * pot s.length (NM.length * (s.length + 1)) es M + (if gr then 1 else 0)) (2 * pot s.length (NM.length * (s.length + 1)) es1 (fun _ _ _ => False) + 1) ?_ ?_
  · refine ⟨rfl, by omega, ?_⟩
    simp +decide -implicitDefEqProofs only [stp,code_seq,evWanted,evOp,val,absV,evBin,evConv,evBuiltin,cmpInt,vals,partsOf,isAggD,cellsOf,isAggV,Nat.reduceEqDiff,Nat.reduceLT,Nat.reduceBEq,Nat.reduceBNe,reduceCtorEq,if_true,if_false,reduceIte,forall_const,IntKind.bits,IntKind.signed,eq_self_iff_true,finalOf,resultOf,cellsGood,AC.isCell,senv_mem,lift]
    exact ⟨es1, _, true, hst1, fun _ _ _ h => h.elim, hdom1, by simp, rfl⟩
  · rintro q sl d' n' ⟨hnt, hn', g0, g1, g9, es, M, gr, hst, hM, hdom, hfin, rfl⟩ hl2 hs2 Q' hQ1 hQ2
    obtain ⟨m1, m2, m3⟩ := hst.live hl2
    have hx1 : get [d'] (n + 1) = some (.cells 73 [.str s, .bool utf, .mref n, .bool gr]) := hst.sense
    obtain ⟨clock, hkm, hborn⟩ := hst.known.obj
    have hnn : ¬ n + 1 = n := by omega
    have hnn2 : ¬ n = n + 1 := by omega
    cases gr with
    | false =>
      simp +decide -implicitDefEqProofs only [stp,code_seq,evWanted,evOp,val,absV,evBin,evConv,evBuiltin,cmpInt,vals,partsOf,isAggD,cellsOf,isAggV,Nat.reduceEqDiff,Nat.reduceLT,Nat.reduceBEq,Nat.reduceBNe,reduceCtorEq,if_true,if_false,reduceIte,forall_const,IntKind.bits,IntKind.signed,eq_self_iff_true,finalOf,resultOf,cellsGood,AC.isCell,senv_mem,lift, ty3,ty4,ty5,ty9,ty21,ty22,ty33,ty34,ty23,ty36,ty40,ty73,ty71,ty75,ty80,ty77,ty90, none1, hnt, g9, hx1]
      refine hQ2 _ _ _ _ (by simp) ?_
      obtain ⟨e0, he0, hke, hkf⟩ := kfind_mem (es := es) hdom
      have hset := hst.known.sets e0 he0
      simp only [keyOf, Prod.mk.injEq] at hke
      rw [hke.1, hke.2, Int.toNat_natCast] at hset
      have hkf' : kfind name 0 es = some (setOf e0) := hkf
      simp +decide -implicitDefEqProofs only [stp,code_seq,evWanted,evOp,val,absV,evBin,evConv,evBuiltin,cmpInt,vals,partsOf,isAggD,cellsOf,isAggV,Nat.reduceEqDiff,Nat.reduceLT,Nat.reduceBEq,Nat.reduceBNe,reduceCtorEq,if_true,if_false,reduceIte,forall_const,IntKind.bits,IntKind.signed,eq_self_iff_true,finalOf,resultOf,cellsGood,AC.isCell,senv_mem,lift, ty3,ty4,ty5,ty9,ty21,ty22,ty33,ty34,ty23,ty36,ty40,ty73,ty71,ty75,ty80,ty77,ty90, none1, hnt, g1, g9, hx1, hkm, isKey_key, hkf', spliceAll,allFields,places,splice,List.take_zero,List.take_succ_cons,List.take_nil,List.drop_zero,List.drop_succ_cons,List.drop_nil,List.nil_append,List.append_nil,List.cons_append,List.all_cons,List.all_nil,Option.isSome_some,Nat.reduceAdd,Nat.reduceSub,Nat.reduceMul,Nat.reduceMod,Nat.reduceLeDiff,List.range,List.range.loop,List.map_cons,List.map_nil,pfind]
      refine call_mono (keysZ_ok (setOf e0) d' n') fun v d2 n2 hR hl3 hle3 hok3 => ?_
      obtain ⟨rfl, rfl, rfl⟩ := hR
      have l0 := m3 e0 he0
      simp +decide -implicitDefEqProofs only [stp,code_seq,evWanted,evOp,val,absV,evBin,evConv,evBuiltin,cmpInt,vals,partsOf,isAggD,cellsOf,isAggV,Nat.reduceEqDiff,Nat.reduceLT,Nat.reduceBEq,Nat.reduceBNe,reduceCtorEq,if_true,if_false,reduceIte,forall_const,IntKind.bits,IntKind.signed,eq_self_iff_true,finalOf,resultOf,cellsGood,AC.isCell,senv_mem,lift, ty3,ty4,ty5,ty9,ty21,ty22,ty33,ty34,ty23,ty36,ty40,ty73,ty71,ty75,ty80,ty77,ty90, none1, hnt]
      refine call_mono (sorted_ok (i := n') (j := setOf e0) (S := fun z => ∃ p : Nat, M name 0 p ∧ z = p) ?_ ?_ fun l hnd hS => ?_) fun v d3 n3 hR hl4 hle4 hok4 => ?_
      · rw [get_cons, if_pos rfl]
      · exact hset.at_ (by rw [get_cons, if_neg (by omega)])
      · have := ints_le (L := s.length) hnd fun x hx => by
          obtain ⟨p, hp, rfl⟩ := hS x hx
          have := hst.known.le _ _ _ hp
          omega
        omega
      · obtain ⟨l, h1, h2, h3, h4⟩ := hR
        simp +decide -implicitDefEqProofs only [stp,code_seq,evWanted,evOp,val,absV,evBin,evConv,evBuiltin,cmpInt,vals,partsOf,isAggD,cellsOf,isAggV,Nat.reduceEqDiff,Nat.reduceLT,Nat.reduceBEq,Nat.reduceBNe,reduceCtorEq,if_true,if_false,reduceIte,forall_const,IntKind.bits,IntKind.signed,eq_self_iff_true,finalOf,resultOf,cellsGood,AC.isCell,senv_mem,lift, ty3,ty4,ty5,ty9,ty21,ty22,ty33,ty34,ty23,ty36,ty40,ty73,ty71,ty75,ty80,ty77,ty90, hnt]
        refine hQ _ _ _ _ v (by simp) ?_ ⟨l, h1, fun x => ?_, ?_⟩
        · simp +decide -implicitDefEqProofs only [stp,code_seq,evWanted,evOp,val,absV,evBin,evConv,evBuiltin,cmpInt,vals,partsOf,isAggD,cellsOf,isAggV,Nat.reduceEqDiff,Nat.reduceLT,Nat.reduceBEq,Nat.reduceBNe,reduceCtorEq,if_true,if_false,reduceIte,forall_const,IntKind.bits,IntKind.signed,eq_self_iff_true,finalOf,resultOf,cellsGood,AC.isCell,senv_mem,lift, Tryz.f15, hnt]
        · rw [h2]
          constructor
          · rintro ⟨p, hp, rfl⟩; exact ⟨p, hM _ _ _ hp, rfl⟩
          · rintro ⟨p, hp, rfl⟩; exact ⟨p, der_done (dom := domOf es) (fun nm a hd e hr M' hM' x hx => hfin rfl nm a hd e hr M' hM' x hx) hdom hp, rfl⟩
        · rcases h4 with h4 | ⟨h5, j, hj, h6⟩
          · exact .inl h4
          · exact .inr ⟨h5, j, by omega, h6⟩
    | true =>
      simp +decide -implicitDefEqProofs only [stp,code_seq,evWanted,evOp,val,absV,evBin,evConv,evBuiltin,cmpInt,vals,partsOf,isAggD,cellsOf,isAggV,Nat.reduceEqDiff,Nat.reduceLT,Nat.reduceBEq,Nat.reduceBNe,reduceCtorEq,if_true,if_false,reduceIte,forall_const,IntKind.bits,IntKind.signed,eq_self_iff_true,finalOf,resultOf,cellsGood,AC.isCell,senv_mem,lift, ty3,ty4,ty5,ty9,ty21,ty22,ty33,ty34,ty23,ty36,ty40,ty73,ty71,ty75,ty80,ty77,ty90, none1, hnt, g9, hx1, hkm, hnn, hnn2, spliceAll,allFields,places,splice,List.take_zero,List.take_succ_cons,List.take_nil,List.drop_zero,List.drop_succ_cons,List.drop_nil,List.nil_append,List.append_nil,List.cons_append,List.all_cons,List.all_nil,Option.isSome_some,Nat.reduceAdd,Nat.reduceSub,Nat.reduceMul,Nat.reduceMod,Nat.reduceLeDiff,List.range,List.range.loop,List.map_cons,List.map_nil,pfind]
      have hst2 := hst.setGr false
      refine call_mono (keysK_ok n _ n') fun v d2 n2 hR hl3 hle3 hok3 => ?_
      obtain ⟨rfl, rfl, rfl⟩ := hR
      have hst3 : Kst s utf NM (n + 1) n ((n', some (.cells 71 [.mref n])) :: (n + 1, some (.cells 73 [.str s, .bool utf, .mref n, .bool false])) :: d') es M false :=
        hst2.frame (by rw [get_cons, if_neg (by omega)]) (by rw [get_cons, if_neg (by omega)]) (fun e he => by have := m3 e he; rw [get_cons, if_neg (by omega)])
      have hlen := hst.known.len
      simp +decide -implicitDefEqProofs only [stp,code_seq,evWanted,evOp,val,absV,evBin,evConv,evBuiltin,cmpInt,vals,partsOf,isAggD,cellsOf,isAggV,Nat.reduceEqDiff,Nat.reduceLT,Nat.reduceBEq,Nat.reduceBNe,reduceCtorEq,if_true,if_false,reduceIte,forall_const,IntKind.bits,IntKind.signed,eq_self_iff_true,finalOf,resultOf,cellsGood,AC.isCell,senv_mem,lift, ty3,ty4,ty5,ty9,ty21,ty22,ty33,ty34,ty23,ty36,ty40,ty73,ty71,ty75,ty80,ty77,ty90, none1, hnt]
      refine call_mono (collect_ok (i := n') (k := n) (clock := clock) (es := es) ?_ ?_ hborn hst.known.stamps (by omega)) fun v d4 n4 hR hl5 hle5 hok5 => ?_
      · rw [get_cons, if_pos rfl]
      · rw [get_cons, if_neg (by omega), get_cons, if_neg hnn]; exact hkm
      obtain ⟨l, hperm, hk4, hn4, hrow⟩ := hR
      have hst4 := hst3.keep hl3 hk4
      have hll : l.length ≤ 1000000000000 := by
        have := hperm.length_eq
        rw [List.length_map] at this
        omega
      have hlne : l ≠ [] := by
        rintro rfl
        have := hperm.mem_iff.2 hdom
        cases this
      rcases hrow with ⟨h5, _⟩ | ⟨_, rfl, hrow⟩
      · exact absurd h5 hlne
      simp +decide -implicitDefEqProofs only [stp,code_seq,evWanted,evOp,val,absV,evBin,evConv,evBuiltin,cmpInt,vals,partsOf,isAggD,cellsOf,isAggV,Nat.reduceEqDiff,Nat.reduceLT,Nat.reduceBEq,Nat.reduceBNe,reduceCtorEq,if_true,if_false,reduceIte,forall_const,IntKind.bits,IntKind.signed,eq_self_iff_true,finalOf,resultOf,cellsGood,AC.isCell,senv_mem,lift, ty3,ty4,ty5,ty9,ty21,ty22,ty33,ty34,ty23,ty36,ty40,ty73,ty71,ty75,ty80,ty77,ty90, none1, hnt]
      refine code_loop senv_ok none1_ok (fun q2 sl d'' n'' => sl.nt = 80 ∧ n4 ≤ n'' ∧ sl.get 0 = .c G ∧ sl.get 1 = .c (.str name) ∧ sl.get 9 = .c (.ptr (n + 1) 0) ∧ sl.get 36 = .c (.sl (n' + 1) l.length) ∧ sl.get 37 = .c (.int .i64 l.length) ∧ get [d''] (n' + 1) = some (.cells 80 (keyCells l)) ∧
        ∃ (i : Nat) (es' : List KE) (M' : Kn) (gr' : Bool), i + q2 = l.length ∧ sl.get 38 = .c (.int .i64 i) ∧ Kst s utf NM (n + 1) n d'' es' M' gr' ∧ (∀ nm a x, M' nm a x → Der g s utf nm a x) ∧ (∀ nm a, domOf es nm a → domOf es' nm a) ∧
          pot s.length (NM.length * (s.length + 1)) es' M' ≤ pot s.length (NM.length * (s.length + 1)) es M ∧ (gr' = true → pot s.length (NM.length * (s.length + 1)) es' M' < pot s.length (NM.length * (s.length + 1)) es M) ∧
          (gr' = false → es' = es ∧ M' = M ∧ ∀ x ∈ l.take i, FinAt g s utf es M x.1 x.2.toNat)) l.length ?_ ?_
      · refine ⟨by simp only [nt_put, hnt], Nat.le_refl _, ?_⟩
        simp +decide -implicitDefEqProofs only [stp,code_seq,evWanted,evOp,val,absV,evBin,evConv,evBuiltin,cmpInt,vals,partsOf,isAggD,cellsOf,isAggV,Nat.reduceEqDiff,Nat.reduceLT,Nat.reduceBEq,Nat.reduceBNe,reduceCtorEq,if_true,if_false,reduceIte,forall_const,IntKind.bits,IntKind.signed,eq_self_iff_true,finalOf,resultOf,cellsGood,AC.isCell,senv_mem,lift, hnt, g0, g1, g9]
        exact ⟨hrow, 0, es, M, false, by omega, rfl, hst4, hM, fun _ _ h => h, Nat.le_refl _, by simp, fun _ => ⟨rfl, rfl, by simp⟩⟩
      · rintro q2 sl2 d5 n5 ⟨hnt2, hn5, f0, f1, f9, f36, f37, hrow5, i, es', M', gr', hiq, f38, hst5, hM5, hdom5, hpot, hpot2, hfin5⟩ hl6 hs6 Q2 hQ3 hQ4
        by_cases hi : (i : Int) < l.length
        · have hi' : i < l.length := by omega
          have hi0 : (0 : Int) ≤ i := by omega
          have hxi : l[i]? = some l[i] := List.getElem?_eq_getElem hi'
          have hxm : l[i] ∈ es.map keyOf := hperm.mem_iff.1 (List.getElem_mem hi')
          have htk : l.take (i + 1) = l.take i ++ [l[i]] := List.take_succ_eq_append_getElem hi'
          generalize l[i] = x at hxi hxm htk
          obtain ⟨nm, az⟩ := x
          obtain ⟨a, rfl, ha⟩ : ∃ a : Nat, az = a ∧ a ≤ s.length := by
            obtain ⟨e, he, hke⟩ := List.mem_map.1 hxm
            have := hst.known.at_ e he
            simp only [keyOf, Prod.mk.injEq] at hke
            exact ⟨az.toNat, by omega, by omega⟩
          have hcell : List.take 2 (List.drop (i * 2) (keyCells l)) = [.str nm, .int .i64 (a : Int)] ∧ i * 2 + 2 ≤ (keyCells l).length := keyCells_at hxi
          obtain ⟨hc1, hc2⟩ := hcell
          obtain ⟨u1, u2, u3⟩ := hst5.live hl6
          simp +decide -implicitDefEqProofs only [stp,code_seq,evWanted,evOp,val,absV,evBin,evConv,evBuiltin,cmpInt,vals,partsOf,isAggD,cellsOf,isAggV,Nat.reduceEqDiff,Nat.reduceLT,Nat.reduceBEq,Nat.reduceBNe,reduceCtorEq,if_true,if_false,reduceIte,forall_const,IntKind.bits,IntKind.signed,eq_self_iff_true,finalOf,resultOf,cellsGood,AC.isCell,senv_mem,lift, ty3,ty4,ty5,ty9,ty21,ty22,ty33,ty34,ty23,ty36,ty40,ty73,ty71,ty75,ty80,ty77,ty90, none1, hnt2, f0, f36, f37, f38, hi, hi0, hrow5, Int.toNat_natCast, hc1, hc2, spliceAll,allFields,places,splice,List.take_zero,List.take_succ_cons,List.take_nil,List.drop_zero,List.drop_succ_cons,List.drop_nil,List.nil_append,List.append_nil,List.cons_append,List.all_cons,List.all_nil,Option.isSome_some,Nat.reduceAdd,Nat.reduceSub,Nat.reduceMul,Nat.reduceMod,Nat.reduceLeDiff,List.range,List.range.loop,List.map_cons,List.map_nil,pfind]
          refine call_mono (hfind _ n5.succ nm) fun v d6 n6 hR hl7 hle7 hok7 => ?_
          obtain ⟨hk6, rfl⟩ := hR
          have hkb : Keeps d5 n5 ((n5, some (AObj.cells 80 [.str nm, .int .i64 (a : Int)])) :: (n5, some (AObj.cells 80 [.str [], .int .i64 0])) :: d5) := ((Keeps.refl d5 n5).cons (Nat.le_refl _)).cons (Nat.le_refl _)
          have hkd6 : Keeps d5 n5 d6 := hkb.trans hk6 (by omega)
          have hst6 := hst5.keep hl6 hkd6
          have lm := (hl6 _ _ hrow5).1
          have hrow6 := (hkd6 _ lm).trans hrow5
          have h11 : get [d6] n5 = some (.cells 80 [.str nm, .int .i64 (a : Int)]) := by rw [hk6 n5 (by omega), get_cons, if_pos rfl]
          cases hr : ruleOf nm g with
          | none =>
            have hfi := findIx_none (k := 0) hr
            rw [hfi]
            simp +decide -implicitDefEqProofs only [stp,code_seq,evWanted,evOp,val,absV,evBin,evConv,evBuiltin,cmpInt,vals,partsOf,isAggD,cellsOf,isAggV,Nat.reduceEqDiff,Nat.reduceLT,Nat.reduceBEq,Nat.reduceBNe,reduceCtorEq,if_true,if_false,reduceIte,forall_const,IntKind.bits,IntKind.signed,eq_self_iff_true,finalOf,resultOf,cellsGood,AC.isCell,senv_mem,lift, ty3,ty4,ty5,ty9,ty21,ty22,ty33,ty34,ty23,ty36,ty40,ty73,ty71,ty75,ty80,ty77,ty90, none1, hnt2, f38]
            refine hQ3 (q2 - 1) _ _ _ (by omega) ⟨by simp only [nt_put, hnt2], by omega, ?_⟩
            simp +decide -implicitDefEqProofs only [stp,code_seq,evWanted,evOp,val,absV,evBin,evConv,evBuiltin,cmpInt,vals,partsOf,isAggD,cellsOf,isAggV,Nat.reduceEqDiff,Nat.reduceLT,Nat.reduceBEq,Nat.reduceBNe,reduceCtorEq,if_true,if_false,reduceIte,forall_const,IntKind.bits,IntKind.signed,eq_self_iff_true,finalOf,resultOf,cellsGood,AC.isCell,senv_mem,lift, hnt2, f0, f1, f9, f36, f37]
            refine ⟨hrow6, i + 1, es', M', gr', by omega, by rw [wrap_succ (by omega)], hst6, hM5, hdom5, hpot, hpot2, fun hg => ?_⟩
            obtain ⟨h8, h9, h10⟩ := hfin5 hg
            refine ⟨h8, h9, fun y hy => ?_⟩
            rw [htk] at hy
            rcases List.mem_append.1 hy with hy | hy
            · exact h10 y hy
            · simp only [List.mem_singleton] at hy
              subst hy
              intro e he
              simp only at he
              rw [hr] at he; cases he
          | some e =>
            obtain ⟨b, cap, ir, cs, hG', hfi, hil, hmem, hcs, hwfe⟩ := hrule nm e hr
            have hnl : ¬ ((ir : Int) < 0) := by omega
            have hr0 : (0 : Int) ≤ ir := by omega
            have hr1 : (ir : Int) < g.length := by omega
            have hx6 : get [d6] (n + 1) = some (.cells 73 [.str s, .bool utf, .mref n, .bool gr']) := hst6.sense
            obtain ⟨c6, hkm6, _⟩ := hst6.known.obj
            obtain ⟨e0, he0, hke, hkf⟩ := kfind_mem (es := es') (hdom5 nm a hxm)
            have f0' := f0
            rw [hG'] at f0'
            rw [hfi]
            simp +decide -implicitDefEqProofs only [stp,code_seq,evWanted,evOp,val,absV,evBin,evConv,evBuiltin,cmpInt,vals,partsOf,isAggD,cellsOf,isAggV,Nat.reduceEqDiff,Nat.reduceLT,Nat.reduceBEq,Nat.reduceBNe,reduceCtorEq,if_true,if_false,reduceIte,forall_const,IntKind.bits,IntKind.signed,eq_self_iff_true,finalOf,resultOf,cellsGood,AC.isCell,senv_mem,lift, ty3,ty4,ty5,ty9,ty21,ty22,ty33,ty34,ty23,ty36,ty40,ty73,ty71,ty75,ty80,ty77,ty90, none1, hnt2, hnl]
            apply code_drawn senv_ok none1_ok (by decide) _ (by rfl)
            · simp +decide -implicitDefEqProofs only [stp,code_seq,evWanted,evOp,val,absV,evBin,evConv,evBuiltin,cmpInt,vals,partsOf,isAggD,cellsOf,isAggV,Nat.reduceEqDiff,Nat.reduceLT,Nat.reduceBEq,Nat.reduceBNe,reduceCtorEq,if_true,if_false,reduceIte,forall_const,IntKind.bits,IntKind.signed,eq_self_iff_true,finalOf,resultOf,cellsGood,AC.isCell,senv_mem,lift, flat,d_nil,d_cons,d_true,d_false,d_some,d_some1,slotsAt_get,slotsAt_nt,get_mk_cons,get_mk,wrs_nil,wrs_cons,wrs_none,get_heapAt,get_seen_nil,get_seen_cons,get_seen_one,List.cons_append,List.nil_append,Nat.reduceSub,Nat.reduceAdd,Nat.add_one_sub_one,bitOf, ty3,ty4,ty5,ty9,ty21,ty22,ty33,ty34,ty23,ty36,ty40,ty73,ty71,ty75,ty80,ty77,ty90, hnt2, f9, hx6, hkm6, h11, hkf, isKey_key, spliceAll,allFields,places,splice,List.take_zero,List.take_succ_cons,List.take_nil,List.drop_zero,List.drop_succ_cons,List.drop_nil,List.nil_append,List.append_nil,List.cons_append,List.all_cons,List.all_nil,Option.isSome_some,Nat.reduceAdd,Nat.reduceSub,Nat.reduceMul,Nat.reduceMod,Nat.reduceLeDiff,List.range,List.range.loop,List.map_cons,List.map_nil,pfind]
              rfl
            · rfl
            · simp +decide -implicitDefEqProofs only [stp,code_seq,evWanted,evOp,val,absV,evBin,evConv,evBuiltin,cmpInt,vals,partsOf,isAggD,cellsOf,isAggV,Nat.reduceEqDiff,Nat.reduceLT,Nat.reduceBEq,Nat.reduceBNe,reduceCtorEq,if_true,if_false,reduceIte,forall_const,IntKind.bits,IntKind.signed,eq_self_iff_true,finalOf,resultOf,cellsGood,AC.isCell,senv_mem,lift, flat,d_nil,d_cons,d_true,d_false,d_some,d_some1,slotsAt_get,slotsAt_nt,get_mk_cons,get_mk,wrs_nil,wrs_cons,wrs_none,get_heapAt,get_seen_nil,get_seen_cons,get_seen_one,List.cons_append,List.nil_append,Nat.reduceSub,Nat.reduceAdd,Nat.add_one_sub_one,bitOf, ty3,ty4,ty5,ty9,ty21,ty22,ty33,ty34,ty23,ty36,ty40,ty73,ty71,ty75,ty80,ty77,ty90, none1, hnt2]
              apply code_tail senv_ok none1_ok 8 (by kernel_rfl) (by kernel_rfl)
              · simp +decide -implicitDefEqProofs only [stp,code_seq,evWanted,evOp,val,absV,evBin,evConv,evBuiltin,cmpInt,vals,partsOf,isAggD,cellsOf,isAggV,Nat.reduceEqDiff,Nat.reduceLT,Nat.reduceBEq,Nat.reduceBNe,reduceCtorEq,if_true,if_false,reduceIte,forall_const,IntKind.bits,IntKind.signed,eq_self_iff_true,finalOf,resultOf,cellsGood,AC.isCell,senv_mem,lift, flat,d_nil,d_cons,d_true,d_false,d_some,d_some1,slotsAt_get,slotsAt_nt,get_mk_cons,get_mk,wrs_nil,wrs_cons,wrs_none,get_heapAt,get_seen_nil,get_seen_cons,get_seen_one,List.cons_append,List.nil_append,Nat.reduceSub,Nat.reduceAdd,Nat.add_one_sub_one,bitOf, evOps, ty3,ty4,ty5,ty9,ty21,ty22,ty33,ty34,ty23,ty36,ty40,ty73,ty71,ty75,ty80,ty77,ty90, hnt2, f0', f9, hr0, hr1, Int.toNat_natCast, hmem, h11, spliceAll,allFields,places,splice,List.take_zero,List.take_succ_cons,List.take_nil,List.drop_zero,List.drop_succ_cons,List.drop_nil,List.nil_append,List.append_nil,List.cons_append,List.all_cons,List.all_nil,Option.isSome_some,Nat.reduceAdd,Nat.reduceSub,Nat.reduceMul,Nat.reduceMod,Nat.reduceLeDiff,List.range,List.range.loop,List.map_cons,List.map_nil,pfind]
                rfl
              · simp +decide -implicitDefEqProofs only [stp,code_seq,evWanted,evOp,val,absV,evBin,evConv,evBuiltin,cmpInt,vals,partsOf,isAggD,cellsOf,isAggV,Nat.reduceEqDiff,Nat.reduceLT,Nat.reduceBEq,Nat.reduceBNe,reduceCtorEq,if_true,if_false,reduceIte,forall_const,IntKind.bits,IntKind.signed,eq_self_iff_true,finalOf,resultOf,cellsGood,AC.isCell,senv_mem,lift, flat,d_nil,d_cons,d_true,d_false,d_some,d_some1,slotsAt_get,slotsAt_nt,get_mk_cons,get_mk,wrs_nil,wrs_cons,wrs_none,get_heapAt,get_seen_nil,get_seen_cons,get_seen_one,List.cons_append,List.nil_append,Nat.reduceSub,Nat.reduceAdd,Nat.add_one_sub_one,bitOf, ty3,ty4,ty5,ty9,ty21,ty22,ty33,ty34,ty23,ty36,ty40,ty73,ty71,ty75,ty80,ty77,ty90, none1, List.drop_succ_cons, List.drop_zero]
                refine call_mono (ends_ok (by omega) e B0 cs (n + 1) n d6 n6 es' M' gr' a hcs hwfe hst6 ha) fun v d7 n7 hR hl8 hle8 hok8 => ?_
                obtain ⟨j7, es7, gr7, rfl, hla7, hden, hcov⟩ := hR
                obtain ⟨ex, hes7, hex7, hgr7⟩ := hla7.more
                have hst7 := hla7.st
                have he7 : e0 ∈ es7 := by rw [hes7]; exact List.mem_append_left _ he0
                have hka : e0.1 = nm ∧ e0.2.1.toNat = a := by
                  simp only [keyOf, Prod.mk.injEq] at hke
                  exact ⟨hke.1, by omega⟩
                have hset7 := hst7.known.sets e0 he7
                rw [hka.1, hka.2] at hset7
                obtain ⟨w1, w2, w3⟩ := hst6.live hl7
                have hrow7 := (hla7.keeps (n' + 1) (by omega) (by omega) (by omega)).trans hrow6
                simp +decide -implicitDefEqProofs only [stp,code_seq,evWanted,evOp,val,absV,evBin,evConv,evBuiltin,cmpInt,vals,partsOf,isAggD,cellsOf,isAggV,Nat.reduceEqDiff,Nat.reduceLT,Nat.reduceBEq,Nat.reduceBNe,reduceCtorEq,if_true,if_false,reduceIte,forall_const,IntKind.bits,IntKind.signed,eq_self_iff_true,finalOf,resultOf,cellsGood,AC.isCell,senv_mem,lift, flat,d_nil,d_cons,d_true,d_false,d_some,d_some1,slotsAt_get,slotsAt_nt,get_mk_cons,get_mk,wrs_nil,wrs_cons,wrs_none,get_heapAt,get_seen_nil,get_seen_cons,get_seen_one,List.cons_append,List.nil_append,Nat.reduceSub,Nat.reduceAdd,Nat.add_one_sub_one,bitOf, ty3,ty4,ty5,ty9,ty21,ty22,ty33,ty34,ty23,ty36,ty40,ty73,ty71,ty75,ty80,ty77,ty90, none1, hnt2]
                refine call_mono (add_ok hset7 hden) fun v d8 n8 hR hl9 hle9 hok9 => ?_
                obtain ⟨hk8, hh8, bb, rfl, hbb⟩ := hR
                have hT : ∀ x, den s utf M' e a x → x ≤ s.length := fun x hx => den_le hst5.known.le e a x ha hx
                have hst8 := hst7.add hl8 he7 (T := den s utf M' e a) hT hk8 (by rw [hka.1, hka.2]; exact Holds.congr hh8 fun z => ⟨fun h => h.elim (fun ⟨p, h1, h2⟩ => ⟨p, .inl h1, h2⟩) (fun ⟨p, h1, h2⟩ => ⟨p, .inr h1, h2⟩), fun ⟨p, h1, h2⟩ => h1.elim (fun h => .inl ⟨p, h, h2⟩) (fun h => .inr ⟨p, h, h2⟩)⟩)
                rw [hka.1, hka.2] at hst8
                have hrow8 := (hk8 (n' + 1) (hl8 _ _ hrow7).1 (hst7.set_kind he7 hrow7 (fun ks c h => by cases h)).symm).trans hrow7
                have hM8 : ∀ nm' a' x, plus M' nm a (den s utf M' e a) nm' a' x → Der g s utf nm' a' x := by
                  rintro nm' a' x (hx | ⟨rfl, rfl, hx⟩)
                  · exact hM5 nm' a' x hx
                  · exact der_step hM5 hr hx
                have hdom8 : ∀ nm' a', domOf es nm' a' → domOf es7 nm' a' := fun nm' a' h => hla7.dom (hdom5 nm' a' h)
                have hpk := pot_keys (L := s.length) (K := NM.length * (s.length + 1)) (es := es') (ex := ex) (M := M') (by rw [← hes7]; exact hst7.known.len) (new_empty hst6 (hes7 ▸ hst7))
                rw [← hes7] at hpk
                cases bb with
                | true =>
                  have hx8 : get [d8] (n + 1) = some (.cells 73 [.str s, .bool utf, .mref n, .bool gr7]) := hst8.sense
                  have hst9 := hst8.setGr true
                  obtain ⟨z, ⟨p, hp, rfl⟩, hz⟩ := hbb.1 rfl
                  clear hbb
                  have hps := pot_set (L := s.length) (K := NM.length * (s.length + 1)) (es := es7) (M := M') (M' := plus M' nm a (den s utf M' e a)) (fun _ _ _ h => .inl h) he7 (x := p) (hT p hp) (by rw [hka.1, hka.2]; exact .inr ⟨rfl, rfl, hp⟩) (by rw [hka.1, hka.2]; exact fun h => hz ⟨p, h, rfl⟩)
                  simp +decide -implicitDefEqProofs only [stp,code_seq,evWanted,evOp,val,absV,evBin,evConv,evBuiltin,cmpInt,vals,partsOf,isAggD,cellsOf,isAggV,Nat.reduceEqDiff,Nat.reduceLT,Nat.reduceBEq,Nat.reduceBNe,reduceCtorEq,if_true,if_false,reduceIte,forall_const,IntKind.bits,IntKind.signed,eq_self_iff_true,finalOf,resultOf,cellsGood,AC.isCell,senv_mem,lift, flat,d_nil,d_cons,d_true,d_false,d_some,d_some1,slotsAt_get,slotsAt_nt,get_mk_cons,get_mk,wrs_nil,wrs_cons,wrs_none,get_heapAt,get_seen_nil,get_seen_cons,get_seen_one,List.cons_append,List.nil_append,Nat.reduceSub,Nat.reduceAdd,Nat.add_one_sub_one,bitOf, ty3,ty4,ty5,ty9,ty21,ty22,ty33,ty34,ty23,ty36,ty40,ty73,ty71,ty75,ty80,ty77,ty90, none1, hnt2, f9, f38, hx8, spliceAll,allFields,places,splice,List.take_zero,List.take_succ_cons,List.take_nil,List.drop_zero,List.drop_succ_cons,List.drop_nil,List.nil_append,List.append_nil,List.cons_append,List.all_cons,List.all_nil,Option.isSome_some,Nat.reduceAdd,Nat.reduceSub,Nat.reduceMul,Nat.reduceMod,Nat.reduceLeDiff,List.range,List.range.loop,List.map_cons,List.map_nil,pfind]
                  refine hQ3 (q2 - 1) _ _ _ (by omega) ⟨by first | rfl | simp only [nt_put, hnt2], by omega, ?_⟩
                  simp +decide -implicitDefEqProofs only [stp,code_seq,evWanted,evOp,val,absV,evBin,evConv,evBuiltin,cmpInt,vals,partsOf,isAggD,cellsOf,isAggV,Nat.reduceEqDiff,Nat.reduceLT,Nat.reduceBEq,Nat.reduceBNe,reduceCtorEq,if_true,if_false,reduceIte,forall_const,IntKind.bits,IntKind.signed,eq_self_iff_true,finalOf,resultOf,cellsGood,AC.isCell,senv_mem,lift, flat,d_nil,d_cons,d_true,d_false,d_some,d_some1,slotsAt_get,slotsAt_nt,get_mk_cons,get_mk,wrs_nil,wrs_cons,wrs_none,get_heapAt,get_seen_nil,get_seen_cons,get_seen_one,List.cons_append,List.nil_append,Nat.reduceSub,Nat.reduceAdd,Nat.add_one_sub_one,bitOf, hnt2, f0, f1, f9, f36, f37, f38]
                  refine ⟨by rw [if_neg (by have := (hl9 _ _ hrow8).1; intro e; rw [← e] at hrow8; rw [hx8] at hrow8; cases hrow8)]; exact hrow8, ?_⟩
                  exact ⟨i + 1, es7, _, true, by omega, by rw [wrap_succ (by omega)], hst9, hM8, hdom8, by omega, fun _ => by omega, fun h => by cases h⟩
                | false =>
                  have hsub : ∀ x, den s utf M' e a x → M' nm a x := fun x hx => by
                    refine Classical.byContradiction fun hno => ?_
                    have := hbb.2 ⟨(x : Int), ⟨x, hx, rfl⟩, fun ⟨p, h1, h2⟩ => hno (by have : p = x := by omega
                                                                                       subst this; exact h1)⟩
                    cases this
                  clear hbb
                  have hpl : plus M' nm a (den s utf M' e a) = M' := by
                    funext nm' a' x
                    apply propext
                    exact ⟨fun h => h.elim id (fun ⟨h1, h2, h3⟩ => by subst h1; subst h2; exact hsub x h3), .inl⟩
                  rw [hpl] at hst8
                  simp +decide -implicitDefEqProofs only [stp,code_seq,evWanted,evOp,val,absV,evBin,evConv,evBuiltin,cmpInt,vals,partsOf,isAggD,cellsOf,isAggV,Nat.reduceEqDiff,Nat.reduceLT,Nat.reduceBEq,Nat.reduceBNe,reduceCtorEq,if_true,if_false,reduceIte,forall_const,IntKind.bits,IntKind.signed,eq_self_iff_true,finalOf,resultOf,cellsGood,AC.isCell,senv_mem,lift, flat,d_nil,d_cons,d_true,d_false,d_some,d_some1,slotsAt_get,slotsAt_nt,get_mk_cons,get_mk,wrs_nil,wrs_cons,wrs_none,get_heapAt,get_seen_nil,get_seen_cons,get_seen_one,List.cons_append,List.nil_append,Nat.reduceSub,Nat.reduceAdd,Nat.add_one_sub_one,bitOf, ty3,ty4,ty5,ty9,ty21,ty22,ty33,ty34,ty23,ty36,ty40,ty73,ty71,ty75,ty80,ty77,ty90, none1, hnt2, f38]
                  refine hQ3 (q2 - 1) _ _ _ (by omega) ⟨by first | rfl | simp only [nt_put, hnt2], by omega, ?_⟩
                  simp +decide -implicitDefEqProofs only [stp,code_seq,evWanted,evOp,val,absV,evBin,evConv,evBuiltin,cmpInt,vals,partsOf,isAggD,cellsOf,isAggV,Nat.reduceEqDiff,Nat.reduceLT,Nat.reduceBEq,Nat.reduceBNe,reduceCtorEq,if_true,if_false,reduceIte,forall_const,IntKind.bits,IntKind.signed,eq_self_iff_true,finalOf,resultOf,cellsGood,AC.isCell,senv_mem,lift, flat,d_nil,d_cons,d_true,d_false,d_some,d_some1,slotsAt_get,slotsAt_nt,get_mk_cons,get_mk,wrs_nil,wrs_cons,wrs_none,get_heapAt,get_seen_nil,get_seen_cons,get_seen_one,List.cons_append,List.nil_append,Nat.reduceSub,Nat.reduceAdd,Nat.add_one_sub_one,bitOf, hnt2, f0, f1, f9, f36, f37, f38]
                  refine ⟨hrow8, i + 1, es7, M', gr7, by omega, by rw [wrap_succ (by omega)], hst8, hM5, hdom8, by omega, fun hg => ?_, fun hg => ?_⟩
                  · rcases hgr7.1 hg with h | h
                    · have := hpot2 h; omega
                    · have := List.length_pos_iff.2 h; omega
                  · have hgf : gr' = false := by
                      cases gr' with
                      | false => rfl
                      | true => rw [hgr7.2 (.inl rfl)] at hg; cases hg
                    have hxe : ex = [] := Classical.byContradiction fun h => by rw [hgr7.2 (.inr h)] at hg; cases hg
                    obtain ⟨h8, h9, h10⟩ := hfin5 hgf
                    subst h8; subst h9; subst hxe
                    rw [List.append_nil] at hes7
                    subst hes7
                    refine ⟨rfl, rfl, fun y hy => ?_⟩
                    rw [htk] at hy
                    rcases List.mem_append.1 hy with hy | hy
                    · exact h10 y hy
                    · simp only [List.mem_singleton] at hy
                      subst hy
                      intro e2 he2 M2 hM2 x hx
                      simp only [Int.toNat_natCast] at he2 hx ⊢
                      rw [hr] at he2
                      simp only [Option.some.injEq] at he2
                      subst he2
                      exact hsub x ((hcov M2 hM2 x).1 hx)
        · simp +decide -implicitDefEqProofs only [stp,code_seq,evWanted,evOp,val,absV,evBin,evConv,evBuiltin,cmpInt,vals,partsOf,isAggD,cellsOf,isAggV,Nat.reduceEqDiff,Nat.reduceLT,Nat.reduceBEq,Nat.reduceBNe,reduceCtorEq,if_true,if_false,reduceIte,forall_const,IntKind.bits,IntKind.signed,eq_self_iff_true,finalOf,resultOf,cellsGood,AC.isCell,senv_mem,lift, ty3,ty4,ty5,ty9,ty21,ty22,ty33,ty34,ty23,ty36,ty40,ty73,ty71,ty75,ty80,ty77,ty90, none1, hnt2, f37, f38, hi]
          refine hQ4 _ _ _ _ (by simp) ?_
          simp +decide -implicitDefEqProofs only [stp,code_seq,evWanted,evOp,val,absV,evBin,evConv,evBuiltin,cmpInt,vals,partsOf,isAggD,cellsOf,isAggV,Nat.reduceEqDiff,Nat.reduceLT,Nat.reduceBEq,Nat.reduceBNe,reduceCtorEq,if_true,if_false,reduceIte,forall_const,IntKind.bits,IntKind.signed,eq_self_iff_true,finalOf,resultOf,cellsGood,AC.isCell,senv_mem,lift, ty3,ty4,ty5,ty9,ty21,ty22,ty33,ty34,ty23,ty36,ty40,ty73,ty71,ty75,ty80,ty77,ty90, none1, hnt2, f37, f38, hi]
          refine hQ1 (2 * pot s.length (NM.length * (s.length + 1)) es' M' + (if gr' then 1 else 0)) _ _ _ ?_ ⟨by simp only [nt_put, hnt2], by omega, ?_⟩
          · cases gr' with
            | true => have := hpot2 rfl; simp; omega
            | false => simp; omega
          · simp +decide -implicitDefEqProofs only [stp,code_seq,evWanted,evOp,val,absV,evBin,evConv,evBuiltin,cmpInt,vals,partsOf,isAggD,cellsOf,isAggV,Nat.reduceEqDiff,Nat.reduceLT,Nat.reduceBEq,Nat.reduceBNe,reduceCtorEq,if_true,if_false,reduceIte,forall_const,IntKind.bits,IntKind.signed,eq_self_iff_true,finalOf,resultOf,cellsGood,AC.isCell,senv_mem,lift, hnt2, f0, f1, f9]
            refine ⟨es', M', gr', hst5, hM5, hdom5 _ _ hdom, fun hg => ?_, rfl⟩
            obtain ⟨rfl, rfl, h7⟩ := hfin5 hg
            rw [List.take_of_length_le (by omega)] at h7
            intro nm a hd
            have := h7 (nm, (a : Int)) (hperm.mem_iff.2 hd)
            simpa using this

end Go.Proofs.YtdpielghjaehbaaGreat.Ev
