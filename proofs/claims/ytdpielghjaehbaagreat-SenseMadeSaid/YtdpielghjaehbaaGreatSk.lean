/- sense: from some places on. -/
import Derived.Test.YtdpielghjaehbaaGreatSi
set_option linter.unusedSectionVars false
set_option linter.unusedSimpArgs false
set_option linter.unusedVariables false
namespace Go.Proofs.YtdpielghjaehbaaGreat.Ev

/-- The contract of ends, for one expression. -/
def EndsOk (w0 : World) (Bx : Nat) (s : List UInt8) (utf : Bool) (NM : List (List UInt8)) (e : Ex) : Prop :=
  ∀ (B0 : Nat) (cs : List Value) (ix k : Nat) (d : Seg) (n : Nat) (es : List KE) (M : Kn) (gr : Bool) (a : Nat), ExAt w0 Bx e cs → wfEx NM e = true → Kst s utf NM ix k d es M gr → a ≤ s.length →
    CallsA Tryz.prog (senv (memOf w0)) B0 35 [.c (.ptr ix 0), .agg (cs.map lift), .c (.int .i64 a)] d n fun v d' n' => ∃ j es' gr', v = .c (.mref j) ∧ Later s utf NM ix k d n es gr M d' es' gr' ∧
      HoldsN d' j (den s utf M e a) ∧ Cov s utf (domOf es') M e a

section
variable {s : List UInt8} {utf : Bool} {NM : List (List UInt8)} {ix k : Nat} {d d' : Seg} {n : Nat} {es es' : List KE} {M : Kn} {gr gr' : Bool}

theorem HoldsN.le {j : Nat} {S : Nat → Prop} {ks : List (Int × Nat)} {c : Nat} (h : get [d] j = some (.pm ks c)) (hS : HoldsN d j S) : Wf ks c ∧ ∀ p ∈ ks, ∃ a : Nat, p.1 = a ∧ S a := by
  obtain ⟨ks', c', h1, h2, h3⟩ := hS
  rw [h] at h1
  simp only [Option.some.injEq, AObj.pm.injEq] at h1
  obtain ⟨rfl, rfl⟩ := h1
  refine ⟨h2, fun p hp => ?_⟩
  obtain ⟨a, ha, he⟩ := (h3 p.1).1 (List.mem_map_of_mem hp)
  exact ⟨a, he, ha⟩

end

theorem Kst.set_kind {s : List UInt8} {utf : Bool} {NM : List (List UInt8)} {ix k : Nat} {d : Seg} {es : List KE} {M : Kn} {gr : Bool} (h : Kst s utf NM ix k d es M gr) {e : KE} (he : e ∈ es) {j : Nat} {o : AObj} (ho : get [d] j = some o) (hno : ∀ ks c, o ≠ .pm ks c) : setOf e ≠ j := by
  rintro rfl
  obtain ⟨ks, c, h1, _⟩ := h.known.sets e he
  rw [h1] at ho
  simp only [Option.some.injEq] at ho
  exact hno ks c ho.symm

theorem stamp_inj {ks : List (Int × Nat)} (hn : (ks.map (·.2)).Nodup) {p q : Int × Nat} (hp : p ∈ ks) (hq : q ∈ ks) (e : p.2 = q.2) : p = q := by
  have h1 := find_stamp hn hp
  rw [e, find_stamp hn hq] at h1
  simpa using h1.symm

theorem getv_cons {j i : Nat} {o : Option AObj} {d : Seg} {v : Option AObj} (hj : ¬ j = i) (h : get [d] i = v) : get [(j, o) :: d] i = v := by rw [get_cons, if_neg hj]; exact h

set_option maxRecDepth 20000 in
theorem from_ok {w0 : World} {Bx B0 : Nat} {s : List UInt8} {utf : Bool} {NM : List (List UInt8)} {e : Ex} (he : EndsOk w0 Bx s utf NM e) {cs : List Value} {ix k jp : Nat} {d : Seg} {n : Nat} {es : List KE} {M : Kn} {gr : Bool} {S : Nat → Prop} (hcs : ExAt w0 Bx e cs) (hwf : wfEx NM e = true)
    (h : Kst s utf NM ix k d es M gr) (hp : HoldsN d jp S) (hS : ∀ a, S a → a ≤ s.length) :
    CallsA Tryz.prog (senv (memOf w0)) B0 57 [.c (.ptr ix 0), .agg (cs.map lift), .c (.mref jp)] d n fun v d' n' => ∃ j es' gr', v = .c (.mref j) ∧ n ≤ j ∧ (∀ e ∈ es', setOf e ≠ j) ∧ Later s utf NM ix k d n es gr M d' es' gr' ∧
      HoldsN d' j (img (den s utf M e) S) ∧ ∀ a, S a → Cov s utf (domOf es') M e a := by
  refine callsA_code senv_ok none1_ok Tryz.func57 rfl (by decide) rfl rfl (by simp) fun hl _ Q hQ => ?_
  obtain ⟨kt, cj, gj, hwj, hmem⟩ := hp
  have hpS := (HoldsN.le gj ⟨kt, cj, gj, hwj, hmem⟩).2
  obtain ⟨h6, hg⟩ := exAt_six hcs
  have hee := fun d n es gr a (h : Kst s utf NM ix k d es M gr) (ha : a ≤ s.length) => he B0 cs ix k d n es M gr a hcs hwf h ha
  have hL : (cs.map lift).length = 6 := by simp [h6]
  generalize cs.map lift = L at hg hee hL
  have hT : List.take 6 L = L := List.take_of_length_le (by omega)
  have hg' : L.all AC.isCell = true := hg
  obtain ⟨l1, l2, l3⟩ := h.live hl
  have ljp := (hl jp _ gj).1
  have n1 : ¬ n = jp := by omega
  have n2 : ¬ n + 1 = jp := by omega
  have hik := h.ne
  simp +decide -implicitDefEqProofs only [stp,code_seq,evWanted,evOp,val,absV,evBin,evConv,evBuiltin,cmpInt,vals,partsOf,isAggD,cellsOf,isAggV,Nat.reduceEqDiff,Nat.reduceLT,Nat.reduceBEq,Nat.reduceBNe,reduceCtorEq,if_true,if_false,reduceIte,forall_const,IntKind.bits,IntKind.signed,eq_self_iff_true,finalOf,resultOf,cellsGood,AC.isCell,senv_mem,lift, Tryz.f57, ty3,ty4,ty5,ty9,ty21,ty22,ty33,ty34,ty23,ty36,ty40,ty73,ty71,ty75,ty80,ty77,ty90, none1, hL, hg', n1, n2, gj]
  refine code_loop senv_ok none1_ok (fun q sl d' n' => sl.nt = 23 ∧ n + 3 ≤ n' ∧ sl.get 0 = .c (.ptr ix 0) ∧ sl.get 4 = .c (.ptr n 0) ∧ sl.get 7 = .c (.mref (n + 1)) ∧ sl.get 11 = .c (.ptr (n + 2) 0) ∧ get [d'] n = some (.cells 36 L) ∧
    ∃ was es' gr', q = left kt was ∧ get [d'] (n + 2) = some (.mit jp cj was cj) ∧ Later s utf NM ix k d n es gr M d' es' gr' ∧ (∀ e ∈ es', setOf e ≠ n + 1) ∧ get [d'] jp = some (.pm kt cj) ∧
      HoldsN d' (n + 1) (fun x => ∃ p ∈ kt, p.2 ∈ was ∧ den s utf M e p.1.toNat x) ∧ ∀ p ∈ kt, p.2 ∈ was → Cov s utf (domOf es') M e p.1.toNat) (left kt []) ?_ ?_
  · refine ⟨rfl, by omega, ?_⟩
    simp +decide -implicitDefEqProofs only [stp,code_seq,evWanted,evOp,val,absV,evBin,evConv,evBuiltin,cmpInt,vals,partsOf,isAggD,cellsOf,isAggV,Nat.reduceEqDiff,Nat.reduceLT,Nat.reduceBEq,Nat.reduceBNe,reduceCtorEq,if_true,if_false,reduceIte,forall_const,IntKind.bits,IntKind.signed,eq_self_iff_true,finalOf,resultOf,cellsGood,AC.isCell,senv_mem,lift]
    refine ⟨by rw [if_neg (by omega), if_neg (by omega)], [], es, gr, rfl, rfl, ?_, fun e he => by have := l3 e he; omega, by rw [if_neg (by omega), if_neg n2, if_neg n1]; exact gj, ?_, by simp⟩
    · exact Later.keep h hl ((((Keeps.refl d n).cons (Nat.le_refl n)).cons (by omega)).cons (by omega))
    · exact holdsN_nil (by rw [get_cons, if_neg (by omega), get_cons, if_pos rfl]) (by simp)
  · rintro q sl d' n' ⟨hnt, hn', g0, g4, g7, g11, gn, was, es', gr', rfl, gi, hla, hid, gj', hout, hcov⟩ hl1 hs1 Q' hQ1 hQ2
    simp +decide -implicitDefEqProofs only [stp,code_seq,evWanted,evOp,val,absV,evBin,evConv,evBuiltin,cmpInt,vals,partsOf,isAggD,cellsOf,isAggV,Nat.reduceEqDiff,Nat.reduceLT,Nat.reduceBEq,Nat.reduceBNe,reduceCtorEq,if_true,if_false,reduceIte,forall_const,IntKind.bits,IntKind.signed,eq_self_iff_true,finalOf,resultOf,cellsGood,AC.isCell,senv_mem,lift, ty3,ty4,ty5,ty9,ty21,ty22,ty33,ty34,ty23,ty36,ty40,ty73,ty71,ty75,ty80,ty77,ty90, hnt, g0, g4, g7, g11]
    refine ⟨jp, cj, was, cj, kt, cj, gi, gj', hwj.born, Nat.le_refl _, fun hdone => ?_, fun p hp hnot => ?_⟩
    · simp +decide -implicitDefEqProofs only [stp,code_seq,evWanted,evOp,val,absV,evBin,evConv,evBuiltin,cmpInt,vals,partsOf,isAggD,cellsOf,isAggV,Nat.reduceEqDiff,Nat.reduceLT,Nat.reduceBEq,Nat.reduceBNe,reduceCtorEq,if_true,if_false,reduceIte,forall_const,IntKind.bits,IntKind.signed,eq_self_iff_true,finalOf,resultOf,cellsGood,AC.isCell,senv_mem,lift, ty3,ty4,ty5,ty9,ty21,ty22,ty33,ty34,ty23,ty36,ty40,ty73,ty71,ty75,ty80,ty77,ty90, hnt, g0, g7]
      refine hQ2 _ _ _ _ (by simp) ?_
      simp +decide -implicitDefEqProofs only [stp,code_seq,evWanted,evOp,val,absV,evBin,evConv,evBuiltin,cmpInt,vals,partsOf,isAggD,cellsOf,isAggV,Nat.reduceEqDiff,Nat.reduceLT,Nat.reduceBEq,Nat.reduceBNe,reduceCtorEq,if_true,if_false,reduceIte,forall_const,IntKind.bits,IntKind.signed,eq_self_iff_true,finalOf,resultOf,cellsGood,AC.isCell,senv_mem,lift, Tryz.f57, ty3,ty4,ty5,ty9,ty21,ty22,ty33,ty34,ty23,ty36,ty40,ty73,ty71,ty75,ty80,ty77,ty90, hnt, g7]
      refine hQ _ _ _ _ (.c (.mref (n + 1))) (by simp) ?_ ⟨n + 1, es', gr', rfl, by omega, hid, hla, hout.congr fun x => ?_, fun a ha => ?_⟩
      · simp +decide -implicitDefEqProofs only [stp,code_seq,evWanted,evOp,val,absV,evBin,evConv,evBuiltin,cmpInt,vals,partsOf,isAggD,cellsOf,isAggV,Nat.reduceEqDiff,Nat.reduceLT,Nat.reduceBEq,Nat.reduceBNe,reduceCtorEq,if_true,if_false,reduceIte,forall_const,IntKind.bits,IntKind.signed,eq_self_iff_true,finalOf,resultOf,cellsGood,AC.isCell,senv_mem,lift, Tryz.f57, hnt]
      · constructor
        · rintro ⟨p, hp, _, hx⟩
          obtain ⟨a, ha, hSa⟩ := hpS p hp
          rw [ha, Int.toNat_natCast] at hx
          exact ⟨a, hSa, hx⟩
        · rintro ⟨a, ha, hx⟩
          have : (a : Int) ∈ keysOf kt := (hmem a).2 ⟨a, ha, rfl⟩
          obtain ⟨p, hp, he⟩ := List.mem_map.1 this
          exact ⟨p, hp, hdone p hp, by rw [he, Int.toNat_natCast]; exact hx⟩
      · have : (a : Int) ∈ keysOf kt := (hmem a).2 ⟨a, ha, rfl⟩
        obtain ⟨p, hp, he⟩ := List.mem_map.1 this
        have := hcov p hp (hdone p hp)
        rwa [he, Int.toNat_natCast] at this
    · obtain ⟨a, ha, hSa⟩ := hpS p hp
      have hlast : (was ++ [p.2]).getLast? = some p.2 := by simp
      have hfind := find_stamp hwj.stamps hp
      obtain ⟨pz, st⟩ := p
      simp only at ha
      subst ha
      simp only at hlast hfind hnot
      have n3 : ¬ n + 2 = jp := by omega
      have n4 : ¬ n + 2 = n := by omega
      have n5 : ¬ n + 2 = n + 1 := by omega
      simp +decide -implicitDefEqProofs only [stp,code_seq,evWanted,evOp,val,absV,evBin,evConv,evBuiltin,cmpInt,vals,partsOf,isAggD,cellsOf,isAggV,Nat.reduceEqDiff,Nat.reduceLT,Nat.reduceBEq,Nat.reduceBNe,reduceCtorEq,if_true,if_false,reduceIte,forall_const,IntKind.bits,IntKind.signed,eq_self_iff_true,finalOf,resultOf,cellsGood,AC.isCell,senv_mem,lift, ty3,ty4,ty5,ty9,ty21,ty22,ty33,ty34,ty23,ty36,ty40,ty73,ty71,ty75,ty80,ty77,ty90, hnt, g0, g4, g7, g11, none1, hlast, hfind, gn, hT, n3, n4, gj', hL, Nat.le_refl, List.drop_zero]
      have hni : ∀ e ∈ es', setOf e ≠ n + 2 := fun e he => hla.st.set_kind he gi (fun ks c h => by cases h)
      obtain ⟨m1, m2, m3⟩ := hla.st.live hl1
      have hb1 : KeepsBut (n + 2) d' n' ((n + 2, some (AObj.mit jp cj (was ++ [st]) cj)) :: d') := KeepsBut.cons (fun _ _ _ => rfl) (.inl rfl)
      have hla1 := hla.but (j := n + 2) (n1 := n') (by omega) hni (by omega) (by omega) hl1 hb1 (by omega)
      refine call_mono (hee _ n' es' gr' a hla1.st (hS a hSa)) fun v d2 n2 hR hl2 hle2 hok => ?_
      obtain ⟨j2, es2, gr2, rfl, hla2, hden, hcov2⟩ := hR
      simp +decide -implicitDefEqProofs only [stp,code_seq,evWanted,evOp,val,absV,evBin,evConv,evBuiltin,cmpInt,vals,partsOf,isAggD,cellsOf,isAggV,Nat.reduceEqDiff,Nat.reduceLT,Nat.reduceBEq,Nat.reduceBNe,reduceCtorEq,if_true,if_false,reduceIte,forall_const,IntKind.bits,IntKind.signed,eq_self_iff_true,finalOf,resultOf,cellsGood,AC.isCell,senv_mem,lift, ty3,ty4,ty5,ty9,ty21,ty22,ty33,ty34,ty23,ty36,ty40,ty73,ty71,ty75,ty80,ty77,ty90, none1, hnt, g7]
      have hout2 := hout.at_ (d' := d2) (by rw [hla2.keeps (n + 1) (by omega) (by omega) (by omega), get_cons, if_neg n5])
      refine call_mono (add_ok hout2 hden) fun v d3 n3' hR hl3 hle3 hok3 => ?_
      obtain ⟨hk3, hh3, b, rfl, _⟩ := hR
      have hid2 : ∀ e ∈ es2, setOf e ≠ n + 1 := by
        obtain ⟨ex, rfl, hex, _⟩ := hla2.more
        intro e he
        rcases List.mem_append.1 he with he | he
        · exact hid e he
        · have := hex e he; omega
      obtain ⟨w1, w2, w3⟩ := hla2.st.live hl2
      have hla3 := (hla1.trans hla2 (by omega)).but (j := n + 1) (by omega) hid2 (by omega) (by omega) hl2 hk3 (by omega)
      have gn2 : get [d2] n = some (.cells 36 L) := by rw [hla2.keeps n (by omega) (by omega) (by omega)]; exact getv_cons n4 gn
      have gi2 : get [d2] (n + 2) = some (.mit jp cj (was ++ [st]) cj) := by rw [hla2.keeps (n + 2) (by omega) (by omega) (by omega), get_cons, if_pos rfl]
      have gj2 : get [d2] jp = some (.pm kt cj) := by
        have e1 : jp ≠ ix := by rintro rfl; have := h.sense; rw [SenseAt, gj] at this; cases this
        have e2 : jp ≠ k := by rintro rfl; obtain ⟨c, hc, _⟩ := h.known.obj; rw [gj] at hc; cases hc
        rw [hla2.keeps jp (by omega) e1 e2]; exact getv_cons n3 gj'
      simp +decide -implicitDefEqProofs only [stp,code_seq,evWanted,evOp,val,absV,evBin,evConv,evBuiltin,cmpInt,vals,partsOf,isAggD,cellsOf,isAggV,Nat.reduceEqDiff,Nat.reduceLT,Nat.reduceBEq,Nat.reduceBNe,reduceCtorEq,if_true,if_false,reduceIte,forall_const,IntKind.bits,IntKind.signed,eq_self_iff_true,finalOf,resultOf,cellsGood,AC.isCell,senv_mem,lift, ty3,ty4,ty5,ty9,ty21,ty22,ty33,ty34,ty23,ty36,ty40,ty73,ty71,ty75,ty80,ty77,ty90]
      refine hQ1 (left kt (was ++ [st])) _ _ _ (left_lt hp hnot) ⟨by simp only [nt_put, hnt], by omega, ?_⟩
      simp +decide -implicitDefEqProofs only [stp,code_seq,evWanted,evOp,val,absV,evBin,evConv,evBuiltin,cmpInt,vals,partsOf,isAggD,cellsOf,isAggV,Nat.reduceEqDiff,Nat.reduceLT,Nat.reduceBEq,Nat.reduceBNe,reduceCtorEq,if_true,if_false,reduceIte,forall_const,IntKind.bits,IntKind.signed,eq_self_iff_true,finalOf,resultOf,cellsGood,AC.isCell,senv_mem,lift, hnt, g0, g4, g7, g11]
      refine ⟨(hk3 n (by omega) (by omega)).trans gn2, was ++ [st], es2, gr2, rfl, (hk3 _ (by omega) (by omega)).trans gi2, hla3, hid2, (hk3 _ (by omega) (by omega)).trans gj2, ?_, ?_⟩
      · refine Holds.congr hh3 fun z => ?_
        constructor
        · rintro (⟨x, ⟨p, hp', hw, hx⟩, rfl⟩ | ⟨x, hx, rfl⟩)
          · exact ⟨x, ⟨p, hp', List.mem_append_left _ hw, hx⟩, rfl⟩
          · exact ⟨x, ⟨((a : Int), st), hp, by simp, by simpa using hx⟩, rfl⟩
        · rintro ⟨x, ⟨p, hp', hw, hx⟩, rfl⟩
          rcases List.mem_append.1 hw with hw | hw
          · exact .inl ⟨x, ⟨p, hp', hw, hx⟩, rfl⟩
          · simp only [List.mem_singleton] at hw
            have : p = ((a : Int), st) := stamp_inj hwj.stamps hp' hp hw
            subst this
            exact .inr ⟨x, by simpa using hx, rfl⟩
      · intro p hp' hw
        rcases List.mem_append.1 hw with hw | hw
        · exact (hcov p hp' hw).mono fun nm b => hla2.dom
        · simp only [List.mem_singleton] at hw
          have : p = ((a : Int), st) := stamp_inj hwj.stamps hp' hp hw
          subst this
          simpa using hcov2

end Go.Proofs.YtdpielghjaehbaaGreat.Ev

/- sense: an expression that stands as often as may be. -/
set_option linter.unusedSectionVars false
set_option linter.unusedSimpArgs false
set_option linter.unusedVariables false
namespace Go.Proofs.YtdpielghjaehbaaGreat.Ev

theorem kid_mem {w0 : World} {Bx : Nat} {kind : Int} {text : List UInt8} {nums : List Int} {least most : Int} {kids : List Ex} {cs : List Value} (h : ExAt w0 Bx (.mk kind text nums least most kids) cs) : ∃ N0 K0, cs.map lift = [.int .i64 kind, .str text, N0, .int .i64 least, .int .i64 most, K0] ∧
    N0.isCell = true ∧ K0.isCell = true ∧ ((K0 = .sl0 ∧ kids = []) ∨ ∃ b cap, K0 = .raw (.slice (some ⟨b, 0, none⟩) kids.length cap) ∧ ∀ j e, kids[j]? = some e → ∃ ks, memCells (senv (memOf w0)) b (j * 6) 6 = some (ks.map lift) ∧ ExAt w0 Bx e ks) ∧
    ((N0 = .sl0 ∧ nums = []) ∨ ∃ b cap, N0 = .raw (.slice (some ⟨b, 0, none⟩) nums.length cap) ∧ ∀ j x, nums[j]? = some x → memOf w0 b j = some (.int .i64 x)) := by
  simp only [ExAt] at h
  obtain ⟨nv, kv, rfl, h2, h3⟩ := h
  refine ⟨lift nv, lift kv, rfl, ?_, ?_, ?_, ?_⟩
  · rcases h2 with ⟨rfl, _⟩ | ⟨b, cap, _, rfl, _⟩ <;> rfl
  · rcases h3 with ⟨rfl, _⟩ | ⟨b, cap, _, rfl, _⟩ <;> rfl
  · rcases h3 with ⟨rfl, h⟩ | ⟨b, cap, _, rfl, h⟩
    · exact .inl ⟨rfl, List.eq_nil_of_length_eq_zero h⟩
    · refine .inr ⟨b, cap, rfl, fun j e hj => ?_⟩
      obtain ⟨ks, h4, h5⟩ := KidsAt.get kids b 0 j e h hj
      rw [Nat.zero_add] at h4
      have h6 := exAt_six h5
      refine ⟨ks, ?_, h5⟩
      have := memCells_of (mem := memOf w0) (b := b) ks (j * 6) (fun i v hi => h4 i v hi)
      rwa [h6.1] at this
  · rcases h2 with ⟨rfl, h⟩ | ⟨b, cap, _, rfl, h⟩
    · exact .inl ⟨rfl, h⟩
    · exact .inr ⟨b, cap, rfl, fun j x hj => h j x hj⟩

/-- How many places are not in a set. -/
noncomputable def missing (L : Nat) (S : Nat → Prop) : Nat := ((List.range (L + 1)).filter fun p => @decide (¬ S p) (Classical.propDecidable _)).length

theorem missing_le (L : Nat) (S : Nat → Prop) : missing L S ≤ L + 1 := by
  unfold missing
  refine Nat.le_trans (List.length_filter_le _ _) ?_
  simp

theorem missing_lt {L : Nat} {S T : Nat → Prop} (h : ∀ x, S x → T x) {x : Nat} (hx : x ≤ L) (h1 : T x) (h2 : ¬ S x) : missing L T < missing L S := by
  unfold missing
  have e : ((List.range (L + 1)).filter fun p => @decide (¬ T p) (Classical.propDecidable _)) = (((List.range (L + 1)).filter fun p => @decide (¬ S p) (Classical.propDecidable _)).filter fun p => @decide (¬ T p) (Classical.propDecidable _)) := by
    rw [List.filter_filter]
    refine List.filter_congr fun p _ => ?_
    by_cases hs : S p
    · simp [hs, h p hs]
    · simp [hs]
  rw [e]
  refine List.length_filter_lt_length_iff_exists.2 ⟨x, ?_, by simp [h1]⟩
  simp [h2]; omega

section
variable {F : Nat → Nat → Prop} {a : Nat} {least i : Nat}

theorem pow_closed (h : ∀ x, pow F (i + 1) (fun y => y = a) x → ∃ m, least ≤ m ∧ m ≤ i ∧ pow F m (fun y => y = a) x) (hi : least ≤ i) : ∀ (m : Nat), least ≤ m → ∀ x, pow F m (fun y => y = a) x → ∃ m', least ≤ m' ∧ m' ≤ i ∧ pow F m' (fun y => y = a) x := by
  intro m
  induction m with
  | zero => intro hm x hx; exact ⟨0, hm, by omega, hx⟩
  | succ m ih =>
    intro hm x hx
    by_cases e : m + 1 ≤ i
    · exact ⟨m + 1, hm, e, hx⟩
    by_cases e2 : least = m + 1
    · omega
    obtain ⟨y, hy, hxy⟩ := hx
    obtain ⟨m', h1, h2, h3⟩ := ih (by omega) y hy
    have hx' : pow F (m' + 1) (fun y => y = a) x := ⟨y, h3, hxy⟩
    by_cases e3 : m' + 1 ≤ i
    · exact ⟨m' + 1, by omega, e3, hx'⟩
    · have : m' = i := by omega
      subst this
      exact h x hx'

end

set_option maxRecDepth 20000 in
theorem rep_ok {w0 : World} {Bx B0 : Nat} {s : List UInt8} {utf : Bool} {NM : List (List UInt8)} {kind : Int} {text : List UInt8} {nums : List Int} {least most : Int} {e : Ex} {kids : List Ex} (he : EndsOk w0 Bx s utf NM e) {cs : List Value} {ix k : Nat} {d : Seg} {n : Nat} {es : List KE} {M : Kn} {gr : Bool} {a : Nat}
    (hcs : ExAt w0 Bx (.mk kind text nums least most (e :: kids)) cs) (hwf : wfEx NM e = true) (hleast : 0 ≤ least) (hmost : most = -1 ∨ least ≤ most) (hb1 : least < 1152921504606846976) (hsl : s.length < 1152921504606846976) (h : Kst s utf NM ix k d es M gr) (ha : a ≤ s.length) :
    CallsA Tryz.prog (senv (memOf w0)) B0 58 [.c (.ptr ix 0), .agg (cs.map lift), .c (.int .i64 a)] d n fun v d' n' => ∃ j es' gr', v = .c (.mref j) ∧ Later s utf NM ix k d n es gr M d' es' gr' ∧
      HoldsN d' j (fun x => ∃ m : Nat, least ≤ m ∧ (most = -1 ∨ (m : Int) ≤ most) ∧ pow (den s utf M e) m (fun y => y = a) x) ∧ ∀ (m b : Nat), (most = -1 ∨ (m : Int) < most) → pow (den s utf M e) m (fun y => y = a) b → Cov s utf (domOf es') M e b := by
  refine callsA_code senv_ok none1_ok Tryz.func58 rfl (by decide) rfl rfl (by simp) fun hl _ Q hQ => ?_
  obtain ⟨N0, K0, hL, hN0, hK0, hK, _⟩ := kid_mem hcs
  rcases hK with ⟨_, hK⟩ | ⟨b, cap, rfl, hkid⟩
  · cases hK
  obtain ⟨ks, hks, hex⟩ := hkid 0 e rfl
  rw [Nat.zero_mul] at hks
  have hden : ∀ b x, b ≤ s.length → den s utf M e b x → x ≤ s.length := fun b x hb => den_le h.known.le e b x hb
  have h6 : (cs.map lift).length = 6 := by simp [(exAt_six hcs).1]
  have hg' : (cs.map lift).all AC.isCell = true := (exAt_six hcs).2
  generalize cs.map lift = L at hL h6 hg'
  obtain ⟨l1, l2, l3⟩ := h.live hl
  have hik := h.ne
  simp +decide -implicitDefEqProofs only [stp,code_seq,evWanted,evOp,val,absV,evBin,evConv,evBuiltin,cmpInt,vals,partsOf,isAggD,cellsOf,isAggV,Nat.reduceEqDiff,Nat.reduceLT,Nat.reduceBEq,Nat.reduceBNe,reduceCtorEq,if_true,if_false,reduceIte,forall_const,IntKind.bits,IntKind.signed,eq_self_iff_true,finalOf,resultOf,cellsGood,AC.isCell,senv_mem,lift, Tryz.f58, ty3,ty4,ty5,ty9,ty21,ty22,ty33,ty34,ty23,ty36,ty40,ty73,ty71,ty75,ty80,ty77,ty90, none1, h6, hg']
  refine call_mono (only_ok (a : Int) _ _) fun v d1 n1 hR hl1 hle1 hok => ?_
  obtain ⟨hk1, j0, hj0, rfl, hh0⟩ := hR
  have hkd : Keeps d n d1 := (((Keeps.refl d n).cons (Nat.le_refl n)).trans hk1 (by omega))
  have gn : get [d1] n = some (.cells 36 L) := by rw [hk1 n (by omega), get_cons, if_pos rfl]
  subst hL
  simp +decide -implicitDefEqProofs only [stp,code_seq,evWanted,evOp,val,absV,evBin,evConv,evBuiltin,cmpInt,vals,partsOf,isAggD,cellsOf,isAggV,Nat.reduceEqDiff,Nat.reduceLT,Nat.reduceBEq,Nat.reduceBNe,reduceCtorEq,if_true,if_false,reduceIte,forall_const,IntKind.bits,IntKind.signed,eq_self_iff_true,finalOf,resultOf,cellsGood,AC.isCell,senv_mem,lift, ty3,ty4,ty5,ty9,ty21,ty22,ty33,ty34,ty23,ty36,ty40,ty73,ty71,ty75,ty80,ty77,ty90, none1, gn]
  refine code_loop senv_ok none1_ok (fun q sl d' n' => sl.nt = 46 ∧ n1 ≤ n' ∧ sl.get 0 = .c (.ptr ix 0) ∧ sl.get 4 = .c (.ptr n 0) ∧ sl.get 13 = .c (.int .i64 least) ∧ get [d'] n = get [d1] n ∧
    ∃ (i jn : Nat) (es' : List KE) (gr' : Bool), i + q = least.toNat ∧ sl.get 14 = .c (.int .i64 i) ∧ sl.get 7 = .c (.mref jn) ∧ Later s utf NM ix k d n es gr M d' es' gr' ∧
      HoldsN d' jn (pow (den s utf M e) i (fun y => y = a)) ∧ ∀ m b : Nat, m < i → pow (den s utf M e) m (fun y => y = a) b → Cov s utf (domOf es') M e b) least.toNat ?_ ?_
  · refine ⟨rfl, Nat.le_refl _, ?_⟩
    simp +decide -implicitDefEqProofs only [stp,code_seq,evWanted,evOp,val,absV,evBin,evConv,evBuiltin,cmpInt,vals,partsOf,isAggD,cellsOf,isAggV,Nat.reduceEqDiff,Nat.reduceLT,Nat.reduceBEq,Nat.reduceBNe,reduceCtorEq,if_true,if_false,reduceIte,forall_const,IntKind.bits,IntKind.signed,eq_self_iff_true,finalOf,resultOf,cellsGood,AC.isCell,senv_mem,lift]
    refine ⟨0, j0, es, gr, by omega, rfl, rfl, Later.keep h hl hkd, hh0.congr fun z => ⟨fun e => ⟨a, rfl, e⟩, fun ⟨p, h1, h2⟩ => by rw [h2, h1]⟩, fun m b hm => by omega⟩
  · rintro q sl d' n' ⟨hnt, hn', g0, g4, g13, gn', i, jn, es', gr', hiq, g14, g7, hla, hh, hcov⟩ hl2 hs2 Q' hQ1 hQ2
    have hle : ∀ b, pow (den s utf M e) i (fun y => y = a) b → b ≤ s.length := fun b hb => pow_le hden i (fun y hy => by omega) b hb
    rw [gn] at gn'
    have hlt0 : (0 : Int) < ((kids.length + 1 : Nat) : Int) := by omega
    by_cases hi : (i : Int) < least
    · simp +decide -implicitDefEqProofs only [stp,code_seq,evWanted,evOp,val,absV,evBin,evConv,evBuiltin,cmpInt,vals,partsOf,isAggD,cellsOf,isAggV,Nat.reduceEqDiff,Nat.reduceLT,Nat.reduceBEq,Nat.reduceBNe,reduceCtorEq,if_true,if_false,reduceIte,forall_const,IntKind.bits,IntKind.signed,eq_self_iff_true,finalOf,resultOf,cellsGood,AC.isCell,senv_mem,lift, ty3,ty4,ty5,ty9,ty21,ty22,ty33,ty34,ty23,ty36,ty40,ty73,ty71,ty75,ty80,ty77,ty90, none1, hnt, g0, g4, g7, g13, g14, hi, gn', hks, List.length_cons, hlt0, Int.toNat_zero, Nat.zero_mul]
      refine call_mono (from_ok he hex hwf hla.st hh hle) fun v d2 n2 hR hl3 hle3 hok3 => ?_
      obtain ⟨j2, es2, gr2, rfl, hj2, hid2, hla2, hh2, hcov2⟩ := hR
      have gn2 : get [d2] n = some (.cells 36 [.int .i64 kind, .str text, N0, .int .i64 least, .int .i64 most, .raw (.slice (some ⟨b, 0, none⟩) (e :: kids).length cap)]) := by
        rw [hla2.keeps n (by omega) (by omega) (by omega)]; exact gn'
      simp +decide -implicitDefEqProofs only [stp,code_seq,evWanted,evOp,val,absV,evBin,evConv,evBuiltin,cmpInt,vals,partsOf,isAggD,cellsOf,isAggV,Nat.reduceEqDiff,Nat.reduceLT,Nat.reduceBEq,Nat.reduceBNe,reduceCtorEq,if_true,if_false,reduceIte,forall_const,IntKind.bits,IntKind.signed,eq_self_iff_true,finalOf,resultOf,cellsGood,AC.isCell,senv_mem,lift, ty3,ty4,ty5,ty9,ty21,ty22,ty33,ty34,ty23,ty36,ty40,ty73,ty71,ty75,ty80,ty77,ty90, hnt, g14]
      refine hQ1 (q - 1) _ _ _ (by omega) ⟨by simp only [nt_put, hnt], by omega, ?_⟩
      simp +decide -implicitDefEqProofs only [stp,code_seq,evWanted,evOp,val,absV,evBin,evConv,evBuiltin,cmpInt,vals,partsOf,isAggD,cellsOf,isAggV,Nat.reduceEqDiff,Nat.reduceLT,Nat.reduceBEq,Nat.reduceBNe,reduceCtorEq,if_true,if_false,reduceIte,forall_const,IntKind.bits,IntKind.signed,eq_self_iff_true,finalOf,resultOf,cellsGood,AC.isCell,senv_mem,lift, hnt, g0, g4, g13]
      refine ⟨by rw [gn2, gn], i + 1, j2, es2, gr2, by omega, by rw [wrap_succ (by omega)], rfl, hla.trans hla2 (by omega), hh2, fun m b hm hb => ?_⟩
      by_cases e1 : m = i
      · subst e1; exact hcov2 b hb
      · exact (hcov m b (by omega) hb).mono fun nm b => hla2.dom
    · simp +decide -implicitDefEqProofs only [stp,code_seq,evWanted,evOp,val,absV,evBin,evConv,evBuiltin,cmpInt,vals,partsOf,isAggD,cellsOf,isAggV,Nat.reduceEqDiff,Nat.reduceLT,Nat.reduceBEq,Nat.reduceBNe,reduceCtorEq,if_true,if_false,reduceIte,forall_const,IntKind.bits,IntKind.signed,eq_self_iff_true,finalOf,resultOf,cellsGood,AC.isCell,senv_mem,lift, ty3,ty4,ty5,ty9,ty21,ty22,ty33,ty34,ty23,ty36,ty40,ty73,ty71,ty75,ty80,ty77,ty90, none1, hnt, g0, g4, g7, g13, g14, hi]
      refine hQ2 _ _ _ _ (by simp) ?_
      have hil : (i : Int) = least := by omega
      simp +decide -implicitDefEqProofs only [stp,code_seq,evWanted,evOp,val,absV,evBin,evConv,evBuiltin,cmpInt,vals,partsOf,isAggD,cellsOf,isAggV,Nat.reduceEqDiff,Nat.reduceLT,Nat.reduceBEq,Nat.reduceBNe,reduceCtorEq,if_true,if_false,reduceIte,forall_const,IntKind.bits,IntKind.signed,eq_self_iff_true,finalOf,resultOf,cellsGood,AC.isCell,senv_mem,lift, ty3,ty4,ty5,ty9,ty21,ty22,ty33,ty34,ty23,ty36,ty40,ty73,ty71,ty75,ty80,ty77,ty90, none1, hnt, g0, g4, g7, g13, g14, hi]
      obtain ⟨kj, cj, gj, hwj, hmj⟩ := hh
      refine call_mono (clone_ok gj) fun v d2 n2 hR hl3 hle3 hok3 => ?_
      obtain ⟨rfl, rfl, rfl⟩ := hR
      obtain ⟨m1, m2, m3⟩ := hla.st.live hl2
      have e1 : ¬ n' = n := by omega
      have ljn := (hl2 jn _ gj).1
      simp +decide -implicitDefEqProofs only [stp,code_seq,evWanted,evOp,val,absV,evBin,evConv,evBuiltin,cmpInt,vals,partsOf,isAggD,cellsOf,isAggV,Nat.reduceEqDiff,Nat.reduceLT,Nat.reduceBEq,Nat.reduceBNe,reduceCtorEq,if_true,if_false,reduceIte,forall_const,IntKind.bits,IntKind.signed,eq_self_iff_true,finalOf,resultOf,cellsGood,AC.isCell,senv_mem,lift, ty3,ty4,ty5,ty9,ty21,ty22,ty33,ty34,ty23,ty36,ty40,ty73,ty71,ty75,ty80,ty77,ty90, hnt, g4, e1, gn']
      refine code_loop senv_ok none1_ok (fun q sl d' n1 => sl.nt = 46 ∧ n' < n1 ∧ sl.get 0 = .c (.ptr ix 0) ∧ sl.get 4 = .c (.ptr n 0) ∧ sl.get 8 = .c (.mref n') ∧ get [d'] n = some (.cells 36 [.int .i64 kind, .str text, N0, .int .i64 least, .int .i64 most, .raw (.slice (some ⟨b, 0, none⟩) (e :: kids).length cap)]) ∧
        ∃ (i jn : Nat) (es' : List KE) (gr' : Bool), least ≤ i ∧ (most = -1 ∨ (i : Int) ≤ most) ∧ q = missing s.length (fun x => ∃ m : Nat, least ≤ m ∧ m ≤ i ∧ pow (den s utf M e) m (fun y => y = a) x) ∧ i + q ≤ least.toNat + s.length + 1 ∧
          sl.get 9 = .c (.int .i64 i) ∧ sl.get 7 = .c (.mref jn) ∧ Later s utf NM ix k d n es gr M d' es' gr' ∧ (∀ e ∈ es', setOf e ≠ n') ∧
          HoldsN d' jn (pow (den s utf M e) i (fun y => y = a)) ∧ HoldsN d' n' (fun x => ∃ m : Nat, least ≤ m ∧ m ≤ i ∧ pow (den s utf M e) m (fun y => y = a) x) ∧
          ∀ m b : Nat, m < i → pow (den s utf M e) m (fun y => y = a) b → Cov s utf (domOf es') M e b) (missing s.length (fun x => ∃ m : Nat, least ≤ m ∧ m ≤ i ∧ pow (den s utf M e) m (fun y => y = a) x)) ?_ ?_
      · refine ⟨by simp only [nt_put, hnt], by omega, ?_⟩
        simp +decide -implicitDefEqProofs only [stp,code_seq,evWanted,evOp,val,absV,evBin,evConv,evBuiltin,cmpInt,vals,partsOf,isAggD,cellsOf,isAggV,Nat.reduceEqDiff,Nat.reduceLT,Nat.reduceBEq,Nat.reduceBNe,reduceCtorEq,if_true,if_false,reduceIte,forall_const,IntKind.bits,IntKind.signed,eq_self_iff_true,finalOf,resultOf,cellsGood,AC.isCell,senv_mem,lift, hnt, g0, g4, g7, e1, gn']
        refine ⟨i, jn, es', gr', by omega, by omega, rfl, ?_, by rw [hil], rfl, ?_, ?_, ?_, ?_, hcov⟩
        · have := missing_le s.length (fun x => ∃ m : Nat, least ≤ m ∧ m ≤ i ∧ pow (den s utf M e) m (fun y => y = a) x)
          omega
        · exact hla.trans (Later.keep hla.st hl2 ((Keeps.refl _ _).cons (Nat.le_refl _))) (by omega)
        · intro e he; have := m3 e he; omega
        · exact ⟨kj, cj, by rw [get_cons, if_neg (by omega)]; exact gj, hwj, hmj⟩
        · refine ⟨kj, cj, by rw [get_cons, if_pos rfl], hwj, fun z => (hmj z).trans ⟨?_, ?_⟩⟩
          · rintro ⟨p, hp, rfl⟩; exact ⟨p, ⟨i, by omega, Nat.le_refl _, hp⟩, rfl⟩
          · rintro ⟨p, ⟨m, h1, h2, hp⟩, rfl⟩
            have : m = i := by omega
            subst this
            exact ⟨p, hp, rfl⟩
      · rintro q2 sl2 d3 n3 ⟨hnt2, hn3, f0, f4, f8, fn, i2, jn2, es2, gr2, hi1, hi2, rfl, hib, f9, f7, hla2, hid2, hh1, hh2, hcov2⟩ hl4 hs4 Q2 hQ3 hQ4
        have hle2 : ∀ b, pow (den s utf M e) i2 (fun y => y = a) b → b ≤ s.length := fun b hb => pow_le hden i2 (fun y hy => by omega) b hb
        by_cases hm : (i2 : Int) = most
        · have hne : ((i2 : Int) != most) = false := by simp [hm]
          simp +decide -implicitDefEqProofs only [stp,code_seq,evWanted,evOp,val,absV,evBin,evConv,evBuiltin,cmpInt,vals,partsOf,isAggD,cellsOf,isAggV,Nat.reduceEqDiff,Nat.reduceLT,Nat.reduceBEq,Nat.reduceBNe,reduceCtorEq,if_true,if_false,reduceIte,forall_const,IntKind.bits,IntKind.signed,eq_self_iff_true,finalOf,resultOf,cellsGood,AC.isCell,senv_mem,lift, ty3,ty4,ty5,ty9,ty21,ty22,ty33,ty34,ty23,ty36,ty40,ty73,ty71,ty75,ty80,ty77,ty90, none1, hnt2, f0, f4, f9, fn, hne]
          refine hQ4 _ _ _ _ (by simp) ?_
          simp +decide -implicitDefEqProofs only [stp,code_seq,evWanted,evOp,val,absV,evBin,evConv,evBuiltin,cmpInt,vals,partsOf,isAggD,cellsOf,isAggV,Nat.reduceEqDiff,Nat.reduceLT,Nat.reduceBEq,Nat.reduceBNe,reduceCtorEq,if_true,if_false,reduceIte,forall_const,IntKind.bits,IntKind.signed,eq_self_iff_true,finalOf,resultOf,cellsGood,AC.isCell,senv_mem,lift, Tryz.f58, ty3,ty4,ty5,ty9,ty21,ty22,ty33,ty34,ty23,ty36,ty40,ty73,ty71,ty75,ty80,ty77,ty90, hnt2, f8]
          refine hQ _ _ _ _ (.c (.mref n')) (by simp) ?_ ⟨n', es2, gr2, rfl, hla2, hh2.congr fun x => ?_, fun m b hmb hb => hcov2 m b (by omega) hb⟩
          · simp +decide -implicitDefEqProofs only [stp,code_seq,evWanted,evOp,val,absV,evBin,evConv,evBuiltin,cmpInt,vals,partsOf,isAggD,cellsOf,isAggV,Nat.reduceEqDiff,Nat.reduceLT,Nat.reduceBEq,Nat.reduceBNe,reduceCtorEq,if_true,if_false,reduceIte,forall_const,IntKind.bits,IntKind.signed,eq_self_iff_true,finalOf,resultOf,cellsGood,AC.isCell,senv_mem,lift, Tryz.f58, hnt2]
          · exact ⟨fun ⟨m, h1, h2, h3⟩ => ⟨m, h1, by omega, h3⟩, fun ⟨m, h1, h2, h3⟩ => ⟨m, h1, by omega, h3⟩⟩
        · have hne : ((i2 : Int) != most) = true := by simp [hm]
          have hlt0 : (0 : Int) < ((kids.length + 1 : Nat) : Int) := by omega
          simp +decide -implicitDefEqProofs only [stp,code_seq,evWanted,evOp,val,absV,evBin,evConv,evBuiltin,cmpInt,vals,partsOf,isAggD,cellsOf,isAggV,Nat.reduceEqDiff,Nat.reduceLT,Nat.reduceBEq,Nat.reduceBNe,reduceCtorEq,if_true,if_false,reduceIte,forall_const,IntKind.bits,IntKind.signed,eq_self_iff_true,finalOf,resultOf,cellsGood,AC.isCell,senv_mem,lift, ty3,ty4,ty5,ty9,ty21,ty22,ty33,ty34,ty23,ty36,ty40,ty73,ty71,ty75,ty80,ty77,ty90, none1, hnt2, f0, f4, f7, f9, fn, hne, hks, List.length_cons, hlt0, Int.toNat_zero, Nat.zero_mul]
          refine call_mono (from_ok he hex hwf hla2.st hh1 hle2) fun v d4 n4 hR hl5 hle5 hok5 => ?_
          obtain ⟨j4, es4, gr4, rfl, hj4, hid4, hla4, hh4, hcov4⟩ := hR
          obtain ⟨w1, w2, w3⟩ := hla2.st.live hl4
          have fn4 : get [d4] n = some (.cells 36 [.int .i64 kind, .str text, N0, .int .i64 least, .int .i64 most, .raw (.slice (some ⟨b, 0, none⟩) (e :: kids).length cap)]) := by
            rw [hla4.keeps n (by omega) (by omega) (by omega)]; exact fn
          have hout4 := hh2.at_ (d' := d4) (hla4.keeps n' (by omega) (by omega) (by omega))
          simp +decide -implicitDefEqProofs only [stp,code_seq,evWanted,evOp,val,absV,evBin,evConv,evBuiltin,cmpInt,vals,partsOf,isAggD,cellsOf,isAggV,Nat.reduceEqDiff,Nat.reduceLT,Nat.reduceBEq,Nat.reduceBNe,reduceCtorEq,if_true,if_false,reduceIte,forall_const,IntKind.bits,IntKind.signed,eq_self_iff_true,finalOf,resultOf,cellsGood,AC.isCell,senv_mem,lift, ty3,ty4,ty5,ty9,ty21,ty22,ty33,ty34,ty23,ty36,ty40,ty73,ty71,ty75,ty80,ty77,ty90, none1, hnt2, f8]
          refine call_mono (add_ok hout4 hh4) fun v d5 n5 hR hl6 hle6 hok6 => ?_
          obtain ⟨hk5, hh5, bb, rfl, hbb⟩ := hR
          have hid5 : ∀ e ∈ es4, setOf e ≠ n' := by
            obtain ⟨ex, rfl, hex, _⟩ := hla4.more
            intro e he
            rcases List.mem_append.1 he with he | he
            · exact hid2 e he
            · have := hex e he; omega
          obtain ⟨u1, u2, u3⟩ := hla4.st.live hl5
          have hla5 := (hla2.trans hla4 (by omega)).but (j := n') (by omega) hid5 (by omega) (by omega) hl5 hk5 (by omega)
          have fn5 := (hk5 n (by omega) (by omega)).trans fn4
          have hj4n : j4 ≠ n' := by omega
          have hh4' : HoldsN d5 j4 (pow (den s utf M e) (i2 + 1) (fun y => y = a)) := by
            obtain ⟨kq, cq, gq, _⟩ := id hh4
            exact hh4.at_ (hk5 j4 (hl5 j4 _ gq).1 hj4n)
          have hh5' : HoldsN d5 n' (fun x => ∃ m : Nat, least ≤ m ∧ m ≤ i2 + 1 ∧ pow (den s utf M e) m (fun y => y = a) x) := by
            refine Holds.congr hh5 fun z => ?_
            constructor
            · rintro (⟨p, ⟨m, h1, h2, h3⟩, rfl⟩ | ⟨p, hp, rfl⟩)
              · exact ⟨p, ⟨m, h1, by omega, h3⟩, rfl⟩
              · exact ⟨p, ⟨i2 + 1, by omega, Nat.le_refl _, hp⟩, rfl⟩
            · rintro ⟨p, ⟨m, h1, h2, h3⟩, rfl⟩
              by_cases e1 : m = i2 + 1
              · subst e1; exact .inr ⟨p, h3, rfl⟩
              · exact .inl ⟨p, ⟨m, h1, by omega, h3⟩, rfl⟩
          have hcov5 : ∀ m b : Nat, m < i2 + 1 → pow (den s utf M e) m (fun y => y = a) b → Cov s utf (domOf es4) M e b := fun m b hm hb => by
            by_cases e1 : m = i2
            · subst e1; exact hcov4 b hb
            · exact (hcov2 m b (by omega) hb).mono fun nm b => hla4.dom
          cases bb with
          | true =>
            simp +decide -implicitDefEqProofs only [stp,code_seq,evWanted,evOp,val,absV,evBin,evConv,evBuiltin,cmpInt,vals,partsOf,isAggD,cellsOf,isAggV,Nat.reduceEqDiff,Nat.reduceLT,Nat.reduceBEq,Nat.reduceBNe,reduceCtorEq,if_true,if_false,reduceIte,forall_const,IntKind.bits,IntKind.signed,eq_self_iff_true,finalOf,resultOf,cellsGood,AC.isCell,senv_mem,lift, ty3,ty4,ty5,ty9,ty21,ty22,ty33,ty34,ty23,ty36,ty40,ty73,ty71,ty75,ty80,ty77,ty90, none1, hnt2, f9]
            obtain ⟨z, ⟨p, hp, rfl⟩, hz⟩ := hbb.1 rfl
            clear hbb
            have hpl : p ≤ s.length := pow_le hden (i2 + 1) (fun y hy => by omega) p hp
            have hms := missing_lt (L := s.length) (S := fun x => ∃ m : Nat, least ≤ m ∧ m ≤ i2 ∧ pow (den s utf M e) m (fun y => y = a) x) (T := fun x => ∃ m : Nat, least ≤ m ∧ m ≤ i2 + 1 ∧ pow (den s utf M e) m (fun y => y = a) x)
              (fun x ⟨m, h1, h2, h3⟩ => ⟨m, h1, by omega, h3⟩) hpl ⟨i2 + 1, by omega, Nat.le_refl _, hp⟩ (fun h => hz ⟨p, h, rfl⟩)
            refine hQ3 _ _ _ _ hms ⟨by simp only [nt_put, hnt2], by omega, ?_⟩
            simp +decide -implicitDefEqProofs only [stp,code_seq,evWanted,evOp,val,absV,evBin,evConv,evBuiltin,cmpInt,vals,partsOf,isAggD,cellsOf,isAggV,Nat.reduceEqDiff,Nat.reduceLT,Nat.reduceBEq,Nat.reduceBNe,reduceCtorEq,if_true,if_false,reduceIte,forall_const,IntKind.bits,IntKind.signed,eq_self_iff_true,finalOf,resultOf,cellsGood,AC.isCell,senv_mem,lift, hnt2, f0, f4, f8]
            refine ⟨fn5, i2 + 1, j4, es4, gr4, by omega, by omega, rfl, by omega, by rw [wrap_succ (by omega)], rfl, hla5, hid5, hh4', hh5', hcov5⟩
          | false =>
            have hsub : ∀ x, pow (den s utf M e) (i2 + 1) (fun y => y = a) x → ∃ m, least.toNat ≤ m ∧ m ≤ i2 ∧ pow (den s utf M e) m (fun y => y = a) x := fun x hx => by
              refine Classical.byContradiction fun hno => ?_
              have := hbb.2 ⟨(x : Int), ⟨x, hx, rfl⟩, ?_⟩
              · cases this
              · rintro ⟨p, ⟨m, h1, h2, h3⟩, h4⟩
                have : p = x := by omega
                subst this
                exact hno ⟨m, by omega, h2, h3⟩
            clear hbb
            have hcl := pow_closed hsub (by omega)
            simp +decide -implicitDefEqProofs only [stp,code_seq,evWanted,evOp,val,absV,evBin,evConv,evBuiltin,cmpInt,vals,partsOf,isAggD,cellsOf,isAggV,Nat.reduceEqDiff,Nat.reduceLT,Nat.reduceBEq,Nat.reduceBNe,reduceCtorEq,if_true,if_false,reduceIte,forall_const,IntKind.bits,IntKind.signed,eq_self_iff_true,finalOf,resultOf,cellsGood,AC.isCell,senv_mem,lift, ty3,ty4,ty5,ty9,ty21,ty22,ty33,ty34,ty23,ty36,ty40,ty73,ty71,ty75,ty80,ty77,ty90, none1, hnt2]
            refine hQ4 _ _ _ _ (by simp) ?_
            simp +decide -implicitDefEqProofs only [stp,code_seq,evWanted,evOp,val,absV,evBin,evConv,evBuiltin,cmpInt,vals,partsOf,isAggD,cellsOf,isAggV,Nat.reduceEqDiff,Nat.reduceLT,Nat.reduceBEq,Nat.reduceBNe,reduceCtorEq,if_true,if_false,reduceIte,forall_const,IntKind.bits,IntKind.signed,eq_self_iff_true,finalOf,resultOf,cellsGood,AC.isCell,senv_mem,lift, Tryz.f58, ty3,ty4,ty5,ty9,ty21,ty22,ty33,ty34,ty23,ty36,ty40,ty73,ty71,ty75,ty80,ty77,ty90, hnt2, f8]
            refine hQ _ _ _ _ (.c (.mref n')) (by simp) ?_ ⟨n', es4, gr4, rfl, hla5, hh5'.congr fun x => ?_, fun m b hmb hb => ?_⟩
            · simp +decide -implicitDefEqProofs only [stp,code_seq,evWanted,evOp,val,absV,evBin,evConv,evBuiltin,cmpInt,vals,partsOf,isAggD,cellsOf,isAggV,Nat.reduceEqDiff,Nat.reduceLT,Nat.reduceBEq,Nat.reduceBNe,reduceCtorEq,if_true,if_false,reduceIte,forall_const,IntKind.bits,IntKind.signed,eq_self_iff_true,finalOf,resultOf,cellsGood,AC.isCell,senv_mem,lift, Tryz.f58, hnt2]
            · constructor
              · rintro ⟨m, h1, h2, h3⟩; exact ⟨m, h1, by omega, h3⟩
              · rintro ⟨m, h1, h2, h3⟩
                obtain ⟨m', h4, h5, h6⟩ := hcl m (by omega) x h3
                exact ⟨m', by omega, by omega, h6⟩
            · by_cases hml : least ≤ m
              · obtain ⟨m', h4, h5, h6⟩ := hcl m (by omega) b hb
                exact hcov5 m' b (by omega) h6
              · exact hcov5 m b (by omega) hb

end Go.Proofs.YtdpielghjaehbaaGreat.Ev
