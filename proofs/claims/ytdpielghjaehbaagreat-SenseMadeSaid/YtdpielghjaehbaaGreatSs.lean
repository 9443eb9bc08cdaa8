/- sense: contracts over the model's worlds. -/
import Derived.Test.YtdpielghjaehbaaGreatSr
set_option linter.unusedSectionVars false
set_option linter.unusedSimpArgs false
set_option linter.unusedVariables false
namespace Go.Proofs.YtdpielghjaehbaaGreat.Ev
open Go.RowKit

theorem memOf_ok {w : World} {b o : Nat} {v : Value} (h : memOf w b o = some v) : b < w.heap.size ∧ w.cell? ⟨b, o, none⟩ = some v := by
  refine ⟨?_, h⟩
  rcases Nat.lt_or_ge b w.heap.size with hb | hb
  · exact hb
  · unfold memOf World.cell? at h
    simp only [Array.getElem?_eq_none hb] at h
    cases h

theorem rep_empty {E : Env} {w : World} (hm : ∀ b o v, E.mem b o = some v → b < w.heap.size ∧ w.cell? ⟨b, o, none⟩ = some v) : Rep E w.heap.size ⟨[[]], fun _ => False, 0, fun _ => (0, 0), w⟩ where
  obj i o ho := by simp [get, look] at ho
  lo i o ho := by simp [get, look] at ho
  inj i j o p ho hp := by simp [get, look] at ho
  al i o ho := by simp [get, look] at ho
  lt i hi := hi.elim
  base := Nat.le_refl _
  mem := hm

theorem step_empty_below {E : Env} {w w' : World} {B0 : Nat} {δ : Seg} {H : List Seg} {al' : Nat → Prop} {n' : Nat} {ρ' : Rho} (h : Step E B0 (In δ) ⟨[[]], fun _ => False, 0, fun _ => (0, 0), w⟩ ⟨H, al', n', ρ', w'⟩) : Below w.heap.size w w' :=
  ⟨h.misc.1, h.misc.2.1, h.misc.2.2, h.size, fun k hk => h.frame k hk fun i _ hi => by simp only at hi; omega⟩

/-- A contract over abstract heaps, in a world. -/
theorem calls_of_abs {P : Program} {E : Env} {f : Nat} {args : List AV} {w : World} {R : AV → Seg → Nat → Prop} (hm : ∀ b o v, E.mem b o = some v → b < w.heap.size ∧ w.cell? ⟨b, o, none⟩ = some v) (hargs : ∀ x ∈ args, x.ok (fun _ => False))
    (h : CallsA P E w.heap.size f args [] 0 R) : Calls P f (args.map (concV fun _ => (0, 0))).toArray w fun e w' => ∃ v d n al ρ, R v d n ∧ Rep E w.heap.size ⟨[d], al, n, ρ, w'⟩ ∧ Below w.heap.size w w' ∧ v.ok al ∧ e = .returned (concV ρ v) := by
  obtain ⟨_, hc⟩ := h _ _ w (rep_empty hm) hargs
  refine hc.mono fun e w' ⟨v, d', n', δ, ρ', al', hR, hd, hst, hok, he⟩ => ⟨v, d', n', al', ρ', hR, hst.rep, step_empty_below hst, hok, he⟩

theorem intRow_at {E : Env} {B0 : Nat} {d : Seg} {al : Nat → Prop} {n m : Nat} {ρ : Rho} {w : World} (h : Rep E B0 ⟨[d], al, n, ρ, w⟩) {v : AV} {l : List Int} (hv : IntRow d m v l) : IntsAt w w.heap.size (concV ρ v) l := by
  rcases hv with ⟨rfl, rfl⟩ | ⟨hne, j, _, rfl, hj⟩
  · exact .inl ⟨rfl, rfl⟩
  · refine .inr ⟨(ρ j).1, (ρ j).2, h.below hj, rfl, fun i x hi => ?_⟩
    have := h.cell hj (k := i) (x := .int .i64 x) (by simp [intsC, hi])
    exact this

theorem lift_conc (v : Value) : concV (fun _ => (0, 0)) (.c (lift v)) = v := conc_lift _ v

/-- The ends of a rule: what it derives, in order. -/
def EndsAre (g : List Ru) (s name : List UInt8) (utf : Bool) (l : List Int) : Prop := l.Pairwise (· < ·) ∧ ∀ x, x ∈ l ↔ ∃ p : Nat, Der g s utf name 0 p ∧ x = p

theorem ends_calls {w : World} {v0 : Value} {g : List Ru} {name s : List UInt8} {utf : Bool} {NM : List (List UInt8)} (hv : RulesAt w w.heap.size v0 g) (hg : g.length < 4611686018427387904) (hwf : ∀ r ∈ g, wfEx NM r.ex = true) (hname : name ∈ NM) (hs0 : s.length < 1000000000) (hbig : NM.length * (s.length + 1) ≤ 1000000000000) :
    Calls Tryz.prog 15 #[v0, .string ⟨name.toArray⟩, .string ⟨s.toArray⟩, .bool utf] w fun e w' => ∃ v l, e = .returned v ∧ EndsAre g s name utf l ∧ IntsAt w' w'.heap.size v l ∧ Below w.heap.size w w' := by
  have h := calls_of_abs (E := senv (memOf w)) (w := w) (fun b o v hv => memOf_ok hv) (by
    intro x hx
    simp only [List.mem_cons, List.not_mem_nil, or_false] at hx
    rcases hx with rfl | rfl | rfl | rfl
    · exact ok_lift _ v0
    · trivial
    · trivial
    · trivial) (ends_abs (B0 := w.heap.size) (d := []) (n := 0) (utf := utf) hv hg hwf hname hs0 hbig)
  have e : (List.map (concV fun _ => (0, 0)) [AV.c (lift v0), AV.c (AC.str name), AV.c (AC.str s), AV.c (AC.bool utf)]).toArray = #[v0, .string ⟨name.toArray⟩, .string ⟨s.toArray⟩, .bool utf] := by
    simp only [List.map_cons, List.map_nil, lift_conc]
    rfl
  rw [e] at h
  refine h.mono ?_
  rintro e w' ⟨v, d, n, al, ρ, ⟨l, h1, h2, h3⟩, hrep, hb, hok, rfl⟩
  exact ⟨_, l, rfl, ⟨h1, h2⟩, intRow_at hrep h3, hb⟩

end Go.Proofs.YtdpielghjaehbaaGreat.Ev

/- regletlaw06.same; sense.Bytes; the document's bytes: over worlds. -/
set_option linter.unusedSectionVars false
set_option linter.unusedSimpArgs false
set_option linter.unusedVariables false
namespace Go.Proofs.YtdpielghjaehbaaGreat.Ev
open Go.RowKit

/-- A list of numbers in the memory that was there before. -/
def RawInts (mem : Nat → Nat → Option Value) (v : AC) (l : List Int) : Prop :=
  (v = .sl0 ∧ l = []) ∨ ∃ b cap, v = .raw (.slice (some ⟨b, 0, none⟩) l.length cap) ∧ ∀ i x, l[i]? = some x → mem b i = some (.int .i64 x)

theorem rawInts_of {w : World} {B : Nat} {v : Value} {l : List Int} (h : IntsAt w B v l) : RawInts (memOf w) (lift v) l := by
  rcases h with ⟨rfl, rfl⟩ | ⟨b, cap, _, rfl, h⟩
  · exact .inl ⟨rfl, rfl⟩
  · exact .inr ⟨b, cap, rfl, fun i x hi => h i x hi⟩

variable {mem : Nat → Nat → Option Value} {B0 : Nat}

set_option maxRecDepth 20000 in
theorem same_abs {v1 v2 : AC} {l1 l2 : List Int} (h1 : RawInts mem v1 l1) (h2 : RawInts mem v2 l2) (hb : l1.length < 4611686018427387904) (d : Seg) (n : Nat) :
    CallsA Tryz.prog (senv mem) B0 14 [.c v1, .c v2] d n fun v d' n' => Keeps d n d' ∧ v = .c (.bool (decide (l1 = l2))) := by
  refine callsA_code senv_ok none1_ok Tryz.func14 rfl (by decide) rfl rfl (by simp) fun hl _ Q hQ => ?_
  rcases h1 with ⟨rfl, rfl⟩ | ⟨b1, cap1, rfl, hm1⟩ <;> rcases h2 with ⟨rfl, rfl⟩ | ⟨b2, cap2, rfl, hm2⟩
  · simp +decide -implicitDefEqProofs only [stp,code_seq,evWanted,evOp,val,absV,evBin,evConv,evBuiltin,cmpInt,vals,partsOf,isAggD,cellsOf,isAggV,Nat.reduceEqDiff,Nat.reduceLT,Nat.reduceBEq,Nat.reduceBNe,reduceCtorEq,if_true,if_false,reduceIte,forall_const,IntKind.bits,IntKind.signed,eq_self_iff_true,finalOf,resultOf,cellsGood,AC.isCell,senv_mem,lift, Tryz.f14, ty3,ty4,ty5,ty9,ty21,ty22,ty33,ty34,ty23,ty36,ty40,ty73,ty71,ty75,ty80,ty77,ty90, none1]
    refine code_loop senv_ok none1_ok (fun q sl d' n' => d' = d ∧ sl.nt = 26 ∧ sl.get 0 = .c .sl0 ∧ sl.get 5 = .c (.int .i64 0)) 0 ?_ ?_
    · refine ⟨rfl, rfl, ?_⟩
      simp +decide -implicitDefEqProofs only [stp,code_seq,evWanted,evOp,val,absV,evBin,evConv,evBuiltin,cmpInt,vals,partsOf,isAggD,cellsOf,isAggV,Nat.reduceEqDiff,Nat.reduceLT,Nat.reduceBEq,Nat.reduceBNe,reduceCtorEq,if_true,if_false,reduceIte,forall_const,IntKind.bits,IntKind.signed,eq_self_iff_true,finalOf,resultOf,cellsGood,AC.isCell,senv_mem,lift]
    · rintro q sl _ n' ⟨rfl, hnt, g0, g5⟩ hl1 hs1 Q' hQ1 hQ2
      have hi : ¬ (0 : Int) < 0 := by omega
      simp +decide -implicitDefEqProofs only [stp,code_seq,evWanted,evOp,val,absV,evBin,evConv,evBuiltin,cmpInt,vals,partsOf,isAggD,cellsOf,isAggV,Nat.reduceEqDiff,Nat.reduceLT,Nat.reduceBEq,Nat.reduceBNe,reduceCtorEq,if_true,if_false,reduceIte,forall_const,IntKind.bits,IntKind.signed,eq_self_iff_true,finalOf,resultOf,cellsGood,AC.isCell,senv_mem,lift, ty3,ty4,ty5,ty9,ty21,ty22,ty33,ty34,ty23,ty36,ty40,ty73,ty71,ty75,ty80,ty77,ty90, none1, hnt, g0, g5, hi]
      refine hQ2 _ _ _ _ (by simp) ?_
      simp +decide -implicitDefEqProofs only [stp,code_seq,evWanted,evOp,val,absV,evBin,evConv,evBuiltin,cmpInt,vals,partsOf,isAggD,cellsOf,isAggV,Nat.reduceEqDiff,Nat.reduceLT,Nat.reduceBEq,Nat.reduceBNe,reduceCtorEq,if_true,if_false,reduceIte,forall_const,IntKind.bits,IntKind.signed,eq_self_iff_true,finalOf,resultOf,cellsGood,AC.isCell,senv_mem,lift, Tryz.f14, ty3,ty4,ty5,ty9,ty21,ty22,ty33,ty34,ty23,ty36,ty40,ty73,ty71,ty75,ty80,ty77,ty90, none1, hnt]
      refine hQ _ _ _ _ (.c (.bool true)) (by simp) ?_ ⟨Keeps.refl _ _, by simp⟩
      simp +decide -implicitDefEqProofs only [stp,code_seq,evWanted,evOp,val,absV,evBin,evConv,evBuiltin,cmpInt,vals,partsOf,isAggD,cellsOf,isAggV,Nat.reduceEqDiff,Nat.reduceLT,Nat.reduceBEq,Nat.reduceBNe,reduceCtorEq,if_true,if_false,reduceIte,forall_const,IntKind.bits,IntKind.signed,eq_self_iff_true,finalOf,resultOf,cellsGood,AC.isCell,senv_mem,lift, Tryz.f14, hnt]
  · by_cases hz : l2 = []
    · subst hz
      simp +decide -implicitDefEqProofs only [stp,code_seq,evWanted,evOp,val,absV,evBin,evConv,evBuiltin,cmpInt,vals,partsOf,isAggD,cellsOf,isAggV,Nat.reduceEqDiff,Nat.reduceLT,Nat.reduceBEq,Nat.reduceBNe,reduceCtorEq,if_true,if_false,reduceIte,forall_const,IntKind.bits,IntKind.signed,eq_self_iff_true,finalOf,resultOf,cellsGood,AC.isCell,senv_mem,lift, Tryz.f14, ty3,ty4,ty5,ty9,ty21,ty22,ty33,ty34,ty23,ty36,ty40,ty73,ty71,ty75,ty80,ty77,ty90, none1, List.length_nil, Int.natCast_zero]
      refine code_loop senv_ok none1_ok (fun q sl d' n' => d' = d ∧ sl.nt = 26 ∧ sl.get 0 = .c .sl0 ∧ sl.get 5 = .c (.int .i64 0)) 0 ?_ ?_
      · refine ⟨rfl, rfl, ?_⟩
        simp +decide -implicitDefEqProofs only [stp,code_seq,evWanted,evOp,val,absV,evBin,evConv,evBuiltin,cmpInt,vals,partsOf,isAggD,cellsOf,isAggV,Nat.reduceEqDiff,Nat.reduceLT,Nat.reduceBEq,Nat.reduceBNe,reduceCtorEq,if_true,if_false,reduceIte,forall_const,IntKind.bits,IntKind.signed,eq_self_iff_true,finalOf,resultOf,cellsGood,AC.isCell,senv_mem,lift]
      · rintro q sl _ n' ⟨rfl, hnt, g0, g5⟩ hl1 hs1 Q' hQ1 hQ2
        have hi : ¬ (0 : Int) < 0 := by omega
        simp +decide -implicitDefEqProofs only [stp,code_seq,evWanted,evOp,val,absV,evBin,evConv,evBuiltin,cmpInt,vals,partsOf,isAggD,cellsOf,isAggV,Nat.reduceEqDiff,Nat.reduceLT,Nat.reduceBEq,Nat.reduceBNe,reduceCtorEq,if_true,if_false,reduceIte,forall_const,IntKind.bits,IntKind.signed,eq_self_iff_true,finalOf,resultOf,cellsGood,AC.isCell,senv_mem,lift, ty3,ty4,ty5,ty9,ty21,ty22,ty33,ty34,ty23,ty36,ty40,ty73,ty71,ty75,ty80,ty77,ty90, none1, hnt, g0, g5, hi]
        refine hQ2 _ _ _ _ (by simp) ?_
        simp +decide -implicitDefEqProofs only [stp,code_seq,evWanted,evOp,val,absV,evBin,evConv,evBuiltin,cmpInt,vals,partsOf,isAggD,cellsOf,isAggV,Nat.reduceEqDiff,Nat.reduceLT,Nat.reduceBEq,Nat.reduceBNe,reduceCtorEq,if_true,if_false,reduceIte,forall_const,IntKind.bits,IntKind.signed,eq_self_iff_true,finalOf,resultOf,cellsGood,AC.isCell,senv_mem,lift, Tryz.f14, ty3,ty4,ty5,ty9,ty21,ty22,ty33,ty34,ty23,ty36,ty40,ty73,ty71,ty75,ty80,ty77,ty90, none1, hnt]
        refine hQ _ _ _ _ (.c (.bool true)) (by simp) ?_ ⟨Keeps.refl _ _, by simp⟩
        simp +decide -implicitDefEqProofs only [stp,code_seq,evWanted,evOp,val,absV,evBin,evConv,evBuiltin,cmpInt,vals,partsOf,isAggD,cellsOf,isAggV,Nat.reduceEqDiff,Nat.reduceLT,Nat.reduceBEq,Nat.reduceBNe,reduceCtorEq,if_true,if_false,reduceIte,forall_const,IntKind.bits,IntKind.signed,eq_self_iff_true,finalOf,resultOf,cellsGood,AC.isCell,senv_mem,lift, Tryz.f14, hnt]
    have hp := List.length_pos_iff.2 hz
    have hne : ((0 : Int) != l2.length) = true := by simp only [bne_iff_ne, ne_eq]; omega
    simp +decide -implicitDefEqProofs only [stp,code_seq,evWanted,evOp,val,absV,evBin,evConv,evBuiltin,cmpInt,vals,partsOf,isAggD,cellsOf,isAggV,Nat.reduceEqDiff,Nat.reduceLT,Nat.reduceBEq,Nat.reduceBNe,reduceCtorEq,if_true,if_false,reduceIte,forall_const,IntKind.bits,IntKind.signed,eq_self_iff_true,finalOf,resultOf,cellsGood,AC.isCell,senv_mem,lift, Tryz.f14, ty3,ty4,ty5,ty9,ty21,ty22,ty33,ty34,ty23,ty36,ty40,ty73,ty71,ty75,ty80,ty77,ty90, none1, hne]
    refine hQ _ _ _ _ (.c (.bool false)) (by simp) ?_ ⟨Keeps.refl _ _, by rw [decide_eq_false (by exact fun e => hz e.symm)]⟩
    simp +decide -implicitDefEqProofs only [stp,code_seq,evWanted,evOp,val,absV,evBin,evConv,evBuiltin,cmpInt,vals,partsOf,isAggD,cellsOf,isAggV,Nat.reduceEqDiff,Nat.reduceLT,Nat.reduceBEq,Nat.reduceBNe,reduceCtorEq,if_true,if_false,reduceIte,forall_const,IntKind.bits,IntKind.signed,eq_self_iff_true,finalOf,resultOf,cellsGood,AC.isCell,senv_mem,lift, Tryz.f14]
  · by_cases hz : l1 = []
    · subst hz
      simp +decide -implicitDefEqProofs only [stp,code_seq,evWanted,evOp,val,absV,evBin,evConv,evBuiltin,cmpInt,vals,partsOf,isAggD,cellsOf,isAggV,Nat.reduceEqDiff,Nat.reduceLT,Nat.reduceBEq,Nat.reduceBNe,reduceCtorEq,if_true,if_false,reduceIte,forall_const,IntKind.bits,IntKind.signed,eq_self_iff_true,finalOf,resultOf,cellsGood,AC.isCell,senv_mem,lift, Tryz.f14, ty3,ty4,ty5,ty9,ty21,ty22,ty33,ty34,ty23,ty36,ty40,ty73,ty71,ty75,ty80,ty77,ty90, none1, List.length_nil, Int.natCast_zero]
      refine code_loop senv_ok none1_ok (fun q sl d' n' => d' = d ∧ sl.nt = 26 ∧ sl.get 0 = .c (.raw (.slice (some ⟨b1, 0, none⟩) 0 cap1)) ∧ sl.get 5 = .c (.int .i64 0)) 0 ?_ ?_
      · refine ⟨rfl, rfl, ?_⟩
        simp +decide -implicitDefEqProofs only [stp,code_seq,evWanted,evOp,val,absV,evBin,evConv,evBuiltin,cmpInt,vals,partsOf,isAggD,cellsOf,isAggV,Nat.reduceEqDiff,Nat.reduceLT,Nat.reduceBEq,Nat.reduceBNe,reduceCtorEq,if_true,if_false,reduceIte,forall_const,IntKind.bits,IntKind.signed,eq_self_iff_true,finalOf,resultOf,cellsGood,AC.isCell,senv_mem,lift]
      · rintro q sl _ n' ⟨rfl, hnt, g0, g5⟩ hl1 hs1 Q' hQ1 hQ2
        have hi : ¬ (0 : Int) < 0 := by omega
        simp +decide -implicitDefEqProofs only [stp,code_seq,evWanted,evOp,val,absV,evBin,evConv,evBuiltin,cmpInt,vals,partsOf,isAggD,cellsOf,isAggV,Nat.reduceEqDiff,Nat.reduceLT,Nat.reduceBEq,Nat.reduceBNe,reduceCtorEq,if_true,if_false,reduceIte,forall_const,IntKind.bits,IntKind.signed,eq_self_iff_true,finalOf,resultOf,cellsGood,AC.isCell,senv_mem,lift, ty3,ty4,ty5,ty9,ty21,ty22,ty33,ty34,ty23,ty36,ty40,ty73,ty71,ty75,ty80,ty77,ty90, none1, hnt, g0, g5, hi, Int.natCast_zero]
        refine hQ2 _ _ _ _ (by simp) ?_
        simp +decide -implicitDefEqProofs only [stp,code_seq,evWanted,evOp,val,absV,evBin,evConv,evBuiltin,cmpInt,vals,partsOf,isAggD,cellsOf,isAggV,Nat.reduceEqDiff,Nat.reduceLT,Nat.reduceBEq,Nat.reduceBNe,reduceCtorEq,if_true,if_false,reduceIte,forall_const,IntKind.bits,IntKind.signed,eq_self_iff_true,finalOf,resultOf,cellsGood,AC.isCell,senv_mem,lift, Tryz.f14, ty3,ty4,ty5,ty9,ty21,ty22,ty33,ty34,ty23,ty36,ty40,ty73,ty71,ty75,ty80,ty77,ty90, none1, hnt]
        refine hQ _ _ _ _ (.c (.bool true)) (by simp) ?_ ⟨Keeps.refl _ _, by simp⟩
        simp +decide -implicitDefEqProofs only [stp,code_seq,evWanted,evOp,val,absV,evBin,evConv,evBuiltin,cmpInt,vals,partsOf,isAggD,cellsOf,isAggV,Nat.reduceEqDiff,Nat.reduceLT,Nat.reduceBEq,Nat.reduceBNe,reduceCtorEq,if_true,if_false,reduceIte,forall_const,IntKind.bits,IntKind.signed,eq_self_iff_true,finalOf,resultOf,cellsGood,AC.isCell,senv_mem,lift, Tryz.f14, hnt]
    have hp := List.length_pos_iff.2 hz
    have hne : ((l1.length : Int) != 0) = true := by simp only [bne_iff_ne, ne_eq]; omega
    simp +decide -implicitDefEqProofs only [stp,code_seq,evWanted,evOp,val,absV,evBin,evConv,evBuiltin,cmpInt,vals,partsOf,isAggD,cellsOf,isAggV,Nat.reduceEqDiff,Nat.reduceLT,Nat.reduceBEq,Nat.reduceBNe,reduceCtorEq,if_true,if_false,reduceIte,forall_const,IntKind.bits,IntKind.signed,eq_self_iff_true,finalOf,resultOf,cellsGood,AC.isCell,senv_mem,lift, Tryz.f14, ty3,ty4,ty5,ty9,ty21,ty22,ty33,ty34,ty23,ty36,ty40,ty73,ty71,ty75,ty80,ty77,ty90, none1, hne]
    refine hQ _ _ _ _ (.c (.bool false)) (by simp) ?_ ⟨Keeps.refl _ _, by rw [decide_eq_false (by exact hz)]⟩
    simp +decide -implicitDefEqProofs only [stp,code_seq,evWanted,evOp,val,absV,evBin,evConv,evBuiltin,cmpInt,vals,partsOf,isAggD,cellsOf,isAggV,Nat.reduceEqDiff,Nat.reduceLT,Nat.reduceBEq,Nat.reduceBNe,reduceCtorEq,if_true,if_false,reduceIte,forall_const,IntKind.bits,IntKind.signed,eq_self_iff_true,finalOf,resultOf,cellsGood,AC.isCell,senv_mem,lift, Tryz.f14]
  · by_cases hlen : l1.length = l2.length
    rotate_left
    ·
      have hne : ((l1.length : Int) != l2.length) = true := by simp only [bne_iff_ne, ne_eq]; omega
      simp +decide -implicitDefEqProofs only [stp,code_seq,evWanted,evOp,val,absV,evBin,evConv,evBuiltin,cmpInt,vals,partsOf,isAggD,cellsOf,isAggV,Nat.reduceEqDiff,Nat.reduceLT,Nat.reduceBEq,Nat.reduceBNe,reduceCtorEq,if_true,if_false,reduceIte,forall_const,IntKind.bits,IntKind.signed,eq_self_iff_true,finalOf,resultOf,cellsGood,AC.isCell,senv_mem,lift, Tryz.f14, ty3,ty4,ty5,ty9,ty21,ty22,ty33,ty34,ty23,ty36,ty40,ty73,ty71,ty75,ty80,ty77,ty90, none1, hne]
      refine hQ _ _ _ _ (.c (.bool false)) (by simp) ?_ ⟨Keeps.refl _ _, by rw [decide_eq_false (by exact fun e => hlen (by rw [e]))]⟩
      simp +decide -implicitDefEqProofs only [stp,code_seq,evWanted,evOp,val,absV,evBin,evConv,evBuiltin,cmpInt,vals,partsOf,isAggD,cellsOf,isAggV,Nat.reduceEqDiff,Nat.reduceLT,Nat.reduceBEq,Nat.reduceBNe,reduceCtorEq,if_true,if_false,reduceIte,forall_const,IntKind.bits,IntKind.signed,eq_self_iff_true,finalOf,resultOf,cellsGood,AC.isCell,senv_mem,lift, Tryz.f14]
    have hne : ((l1.length : Int) != l2.length) = false := by simp [hlen]
    simp +decide -implicitDefEqProofs only [stp,code_seq,evWanted,evOp,val,absV,evBin,evConv,evBuiltin,cmpInt,vals,partsOf,isAggD,cellsOf,isAggV,Nat.reduceEqDiff,Nat.reduceLT,Nat.reduceBEq,Nat.reduceBNe,reduceCtorEq,if_true,if_false,reduceIte,forall_const,IntKind.bits,IntKind.signed,eq_self_iff_true,finalOf,resultOf,cellsGood,AC.isCell,senv_mem,lift, Tryz.f14, ty3,ty4,ty5,ty9,ty21,ty22,ty33,ty34,ty23,ty36,ty40,ty73,ty71,ty75,ty80,ty77,ty90, none1, hne]
    refine code_loop senv_ok none1_ok (fun q sl d' n' => d' = d ∧ sl.nt = 26 ∧ sl.get 0 = .c (.raw (.slice (some ⟨b1, 0, none⟩) l1.length cap1)) ∧ sl.get 1 = .c (.raw (.slice (some ⟨b2, 0, none⟩) l2.length cap2)) ∧ ∃ i : Nat, i + q = l1.length ∧ sl.get 5 = .c (.int .i64 i) ∧ l1.take i = l2.take i) l1.length ?_ ?_
    · refine ⟨rfl, rfl, ?_⟩
      simp +decide -implicitDefEqProofs only [stp,code_seq,evWanted,evOp,val,absV,evBin,evConv,evBuiltin,cmpInt,vals,partsOf,isAggD,cellsOf,isAggV,Nat.reduceEqDiff,Nat.reduceLT,Nat.reduceBEq,Nat.reduceBNe,reduceCtorEq,if_true,if_false,reduceIte,forall_const,IntKind.bits,IntKind.signed,eq_self_iff_true,finalOf,resultOf,cellsGood,AC.isCell,senv_mem,lift]
      exact ⟨0, by omega, rfl, rfl⟩
    · rintro q sl _ n' ⟨rfl, hnt, g0, g1, i, hiq, g5, htk⟩ hl1 hs1 Q' hQ1 hQ2
      by_cases hi : (i : Int) < l1.length
      · have hi0 : (0 : Int) ≤ i := by omega
        have hi1 : i < l1.length := by omega
        have hi2 : i < l2.length := by omega
        have hi3 : (i : Int) < l2.length := by omega
        have c1 := hm1 i _ (List.getElem?_eq_getElem hi1)
        have c2 := hm2 i _ (List.getElem?_eq_getElem hi2)
        simp +decide -implicitDefEqProofs only [stp,code_seq,evWanted,evOp,val,absV,evBin,evConv,evBuiltin,cmpInt,vals,partsOf,isAggD,cellsOf,isAggV,Nat.reduceEqDiff,Nat.reduceLT,Nat.reduceBEq,Nat.reduceBNe,reduceCtorEq,if_true,if_false,reduceIte,forall_const,IntKind.bits,IntKind.signed,eq_self_iff_true,finalOf,resultOf,cellsGood,AC.isCell,senv_mem,lift, ty3,ty4,ty5,ty9,ty21,ty22,ty33,ty34,ty23,ty36,ty40,ty73,ty71,ty75,ty80,ty77,ty90, none1, hnt, g0, g5, hi]
        apply code_drawn senv_ok none1_ok (by decide) _ (by rfl)
        · simp +decide -implicitDefEqProofs only [stp,code_seq,evWanted,evOp,val,absV,evBin,evConv,evBuiltin,cmpInt,vals,partsOf,isAggD,cellsOf,isAggV,Nat.reduceEqDiff,Nat.reduceLT,Nat.reduceBEq,Nat.reduceBNe,reduceCtorEq,if_true,if_false,reduceIte,forall_const,IntKind.bits,IntKind.signed,eq_self_iff_true,finalOf,resultOf,cellsGood,AC.isCell,senv_mem,lift, flat,d_nil,d_cons,d_true,d_false,d_some,d_some1,slotsAt_get,slotsAt_nt,get_mk_cons,get_mk,wrs_nil,wrs_cons,wrs_none,get_heapAt,get_seen_nil,get_seen_cons,get_seen_one,List.cons_append,List.nil_append,Nat.reduceSub,Nat.reduceAdd,Nat.add_one_sub_one,bitOf, ty3,ty4,ty5,ty9,ty21,ty22,ty33,ty34,ty23,ty36,ty40,ty73,ty71,ty75,ty80,ty77,ty90, hnt, g0, g1, g5, hi, hi3, hi0, Int.toNat_natCast, c1, c2]
          rfl
        · rfl
        · by_cases he : l1[i] = l2[i]
          · have hne2 : (l1[i] != l2[i]) = false := by simp [he]
            simp +decide -implicitDefEqProofs only [stp,code_seq,evWanted,evOp,val,absV,evBin,evConv,evBuiltin,cmpInt,vals,partsOf,isAggD,cellsOf,isAggV,Nat.reduceEqDiff,Nat.reduceLT,Nat.reduceBEq,Nat.reduceBNe,reduceCtorEq,if_true,if_false,reduceIte,forall_const,IntKind.bits,IntKind.signed,eq_self_iff_true,finalOf,resultOf,cellsGood,AC.isCell,senv_mem,lift, flat,d_nil,d_cons,d_true,d_false,d_some,d_some1,slotsAt_get,slotsAt_nt,get_mk_cons,get_mk,wrs_nil,wrs_cons,wrs_none,get_heapAt,get_seen_nil,get_seen_cons,get_seen_one,List.cons_append,List.nil_append,Nat.reduceSub,Nat.reduceAdd,Nat.add_one_sub_one,bitOf, ty3,ty4,ty5,ty9,ty21,ty22,ty33,ty34,ty23,ty36,ty40,ty73,ty71,ty75,ty80,ty77,ty90, none1, hnt, g5, hne2]
            refine hQ1 (q - 1) _ _ _ (by omega) ⟨rfl, by first | rfl | simp only [nt_put, hnt], ?_⟩
            simp +decide -implicitDefEqProofs only [stp,code_seq,evWanted,evOp,val,absV,evBin,evConv,evBuiltin,cmpInt,vals,partsOf,isAggD,cellsOf,isAggV,Nat.reduceEqDiff,Nat.reduceLT,Nat.reduceBEq,Nat.reduceBNe,reduceCtorEq,if_true,if_false,reduceIte,forall_const,IntKind.bits,IntKind.signed,eq_self_iff_true,finalOf,resultOf,cellsGood,AC.isCell,senv_mem,lift, flat,d_nil,d_cons,d_true,d_false,d_some,d_some1,slotsAt_get,slotsAt_nt,get_mk_cons,get_mk,wrs_nil,wrs_cons,wrs_none,get_heapAt,get_seen_nil,get_seen_cons,get_seen_one,List.cons_append,List.nil_append,Nat.reduceSub,Nat.reduceAdd,Nat.add_one_sub_one,bitOf, hnt, g0, g1]
            refine ⟨i + 1, by omega, by rw [wrap_succ (by omega)], ?_⟩
            rw [List.take_succ_eq_append_getElem hi1, List.take_succ_eq_append_getElem hi2, htk, he]
          · have hne2 : (l1[i] != l2[i]) = true := by simp [he]
            simp +decide -implicitDefEqProofs only [stp,code_seq,evWanted,evOp,val,absV,evBin,evConv,evBuiltin,cmpInt,vals,partsOf,isAggD,cellsOf,isAggV,Nat.reduceEqDiff,Nat.reduceLT,Nat.reduceBEq,Nat.reduceBNe,reduceCtorEq,if_true,if_false,reduceIte,forall_const,IntKind.bits,IntKind.signed,eq_self_iff_true,finalOf,resultOf,cellsGood,AC.isCell,senv_mem,lift, flat,d_nil,d_cons,d_true,d_false,d_some,d_some1,slotsAt_get,slotsAt_nt,get_mk_cons,get_mk,wrs_nil,wrs_cons,wrs_none,get_heapAt,get_seen_nil,get_seen_cons,get_seen_one,List.cons_append,List.nil_append,Nat.reduceSub,Nat.reduceAdd,Nat.add_one_sub_one,bitOf, ty3,ty4,ty5,ty9,ty21,ty22,ty33,ty34,ty23,ty36,ty40,ty73,ty71,ty75,ty80,ty77,ty90, none1, hnt, g5, hne2]
            refine hQ2 _ _ _ _ (by simp) ?_
            simp +decide -implicitDefEqProofs only [stp,code_seq,evWanted,evOp,val,absV,evBin,evConv,evBuiltin,cmpInt,vals,partsOf,isAggD,cellsOf,isAggV,Nat.reduceEqDiff,Nat.reduceLT,Nat.reduceBEq,Nat.reduceBNe,reduceCtorEq,if_true,if_false,reduceIte,forall_const,IntKind.bits,IntKind.signed,eq_self_iff_true,finalOf,resultOf,cellsGood,AC.isCell,senv_mem,lift, Tryz.f14, ty3,ty4,ty5,ty9,ty21,ty22,ty33,ty34,ty23,ty36,ty40,ty73,ty71,ty75,ty80,ty77,ty90, none1, hnt]
            refine hQ _ _ _ _ (.c (.bool false)) (by simp) ?_ ⟨Keeps.refl _ _, by rw [decide_eq_false (fun e => he (by simp only [e]))]⟩
            simp +decide -implicitDefEqProofs only [stp,code_seq,evWanted,evOp,val,absV,evBin,evConv,evBuiltin,cmpInt,vals,partsOf,isAggD,cellsOf,isAggV,Nat.reduceEqDiff,Nat.reduceLT,Nat.reduceBEq,Nat.reduceBNe,reduceCtorEq,if_true,if_false,reduceIte,forall_const,IntKind.bits,IntKind.signed,eq_self_iff_true,finalOf,resultOf,cellsGood,AC.isCell,senv_mem,lift, flat,d_nil,d_cons,d_true,d_false,d_some,d_some1,slotsAt_get,slotsAt_nt,get_mk_cons,get_mk,wrs_nil,wrs_cons,wrs_none,get_heapAt,get_seen_nil,get_seen_cons,get_seen_one,List.cons_append,List.nil_append,Nat.reduceSub,Nat.reduceAdd,Nat.add_one_sub_one,bitOf, Tryz.f14, hnt]
      · simp +decide -implicitDefEqProofs only [stp,code_seq,evWanted,evOp,val,absV,evBin,evConv,evBuiltin,cmpInt,vals,partsOf,isAggD,cellsOf,isAggV,Nat.reduceEqDiff,Nat.reduceLT,Nat.reduceBEq,Nat.reduceBNe,reduceCtorEq,if_true,if_false,reduceIte,forall_const,IntKind.bits,IntKind.signed,eq_self_iff_true,finalOf,resultOf,cellsGood,AC.isCell,senv_mem,lift, ty3,ty4,ty5,ty9,ty21,ty22,ty33,ty34,ty23,ty36,ty40,ty73,ty71,ty75,ty80,ty77,ty90, none1, hnt, g0, g5, hi]
        refine hQ2 _ _ _ _ (by simp) ?_
        simp +decide -implicitDefEqProofs only [stp,code_seq,evWanted,evOp,val,absV,evBin,evConv,evBuiltin,cmpInt,vals,partsOf,isAggD,cellsOf,isAggV,Nat.reduceEqDiff,Nat.reduceLT,Nat.reduceBEq,Nat.reduceBNe,reduceCtorEq,if_true,if_false,reduceIte,forall_const,IntKind.bits,IntKind.signed,eq_self_iff_true,finalOf,resultOf,cellsGood,AC.isCell,senv_mem,lift, Tryz.f14, ty3,ty4,ty5,ty9,ty21,ty22,ty33,ty34,ty23,ty36,ty40,ty73,ty71,ty75,ty80,ty77,ty90, none1, hnt]
        refine hQ _ _ _ _ (.c (.bool true)) (by simp) ?_ ⟨Keeps.refl _ _, ?_⟩
        · simp +decide -implicitDefEqProofs only [stp,code_seq,evWanted,evOp,val,absV,evBin,evConv,evBuiltin,cmpInt,vals,partsOf,isAggD,cellsOf,isAggV,Nat.reduceEqDiff,Nat.reduceLT,Nat.reduceBEq,Nat.reduceBNe,reduceCtorEq,if_true,if_false,reduceIte,forall_const,IntKind.bits,IntKind.signed,eq_self_iff_true,finalOf,resultOf,cellsGood,AC.isCell,senv_mem,lift, Tryz.f14, hnt]
        · rw [List.take_of_length_le (by omega), List.take_of_length_le (by omega)] at htk
          rw [decide_eq_true htk]

theorem same_calls {w : World} {B : Nat} {v1 v2 : Value} {l1 l2 : List Int} (h1 : IntsAt w B v1 l1) (h2 : IntsAt w B v2 l2) (hb : l1.length < 4611686018427387904) :
    Calls Tryz.prog 14 #[v1, v2] w fun e w' => e = .returned (.bool (decide (l1 = l2))) ∧ Below w.heap.size w w' := by
  have h := calls_of_abs (E := senv (memOf w)) (w := w) (fun b o v hv => memOf_ok hv) (by
    intro x hx
    simp only [List.mem_cons, List.not_mem_nil, or_false] at hx
    rcases hx with rfl | rfl
    · exact ok_lift _ v1
    · exact ok_lift _ v2) (same_abs (B0 := w.heap.size) (rawInts_of h1) (rawInts_of h2) hb [] 0)
  have e : (List.map (concV fun _ => (0, 0)) [AV.c (lift v1), AV.c (lift v2)]).toArray = #[v1, v2] := by
    simp only [List.map_cons, List.map_nil, lift_conc]
  rw [e] at h
  refine h.mono ?_
  rintro e w' ⟨v, d, n, al, ρ, ⟨_, rfl⟩, hrep, hb, hok, rfl⟩
  exact ⟨rfl, hb⟩

theorem bytes_calls (w : World) (c : Int) (utf : Bool) : Calls Tryz.prog 16 #[.int .i64 c, .bool utf] w fun e w' => ∃ v, e = .returned v ∧ IntsAt w' w'.heap.size v (senseBytes c utf) ∧ Below w.heap.size w w' := by
  have h := calls_of_abs (E := senv (memOf w)) (w := w) (fun b o v hv => memOf_ok hv) (by
    intro x hx
    simp only [List.mem_cons, List.not_mem_nil, or_false] at hx
    rcases hx with rfl | rfl <;> trivial) (senseBytes_ok (mem := memOf w) (B0 := w.heap.size) c utf [] 0)
  refine h.mono ?_
  rintro e w' ⟨v, d, n, al, ρ, ⟨_, _, h3⟩, hrep, hb, hok, rfl⟩
  exact ⟨_, rfl, intRow_at hrep h3, hb⟩

end Go.Proofs.YtdpielghjaehbaaGreat.Ev

/- The document's bytes of a number are the program's. -/
set_option linter.unusedSectionVars false
set_option linter.unusedSimpArgs false
set_option linter.unusedVariables false
namespace Go.Proofs.YtdpielghjaehbaaGreat.Ev
open Go.RowKit

variable {mem : Nat → Nat → Option Value} {B0 : Nat}

def refList (c : Int) : List Int :=
  if c < 128 then [c] else if c < 2048 then [192 + c / 64, 128 + c % 64] else if c < 65536 then [224 + c / 4096, 128 + c / 64 % 64, 128 + c % 64] else [240 + c / 262144, 128 + c / 4096 % 64, 128 + c / 64 % 64, 128 + c % 64]

theorem ofNat_cast {n : Nat} (h : n < 256) : ((UInt8.ofNat n).toNat : Int) = n := by
  have : (UInt8.ofNat n).toNat = n % 256 := by simp
  omega

theorem utf8_eq {c : Int} (h : isScalarB c = true) : utf8 c = refList c := by
  simp only [isScalarB, Bool.or_eq_true, Bool.and_eq_true, decide_eq_true_eq] at h
  obtain ⟨n, rfl⟩ : ∃ n : Nat, c = n := ⟨c.toNat, by omega⟩
  have hv : Utf8.valid (n : Int) = true := by
    unfold Utf8.valid
    simp only [Bool.and_eq_true, Bool.or_eq_true, Bool.not_eq_true', decide_eq_true_eq, decide_eq_false_iff_not]
    omega
  unfold utf8 refList Utf8.encode
  simp only [hv, if_true, Int.toNat_natCast]
  by_cases h1 : n < 128
  · simp only [if_pos h1, if_pos (show (n : Int) < 128 by omega), List.map_cons, List.map_nil, ofNat_cast (show n < 256 by omega)]
  by_cases h2 : n < 2048
  · simp only [if_neg h1, if_neg (show ¬ (n : Int) < 128 by omega), if_pos h2, if_pos (show (n : Int) < 2048 by omega), List.map_cons, List.map_nil]
    rw [ofNat_cast (by omega), ofNat_cast (by omega)]
    rfl
  by_cases h3 : n < 65536
  · simp only [if_neg h1, if_neg (show ¬ (n : Int) < 128 by omega), if_neg h2, if_neg (show ¬ (n : Int) < 2048 by omega), if_pos h3, if_pos (show (n : Int) < 65536 by omega), List.map_cons, List.map_nil]
    rw [ofNat_cast (by omega), ofNat_cast (by omega), ofNat_cast (by omega)]
    rfl
  · simp only [if_neg h1, if_neg (show ¬ (n : Int) < 128 by omega), if_neg h2, if_neg (show ¬ (n : Int) < 2048 by omega), if_neg h3, if_neg (show ¬ (n : Int) < 65536 by omega), List.map_cons, List.map_nil]
    rw [ofNat_cast (by omega), ofNat_cast (by omega), ofNat_cast (by omega), ofNat_cast (by omega)]
    rfl

theorem refScalar_ok (c : Int) : PureA Tryz.prog (senv mem) B0 114 [.c (.int .i64 c)] (.c (.bool (isScalarB c))) := by
  intro d n
  refine callsA_code senv_ok none1_ok Tryz.func114 rfl (by decide) rfl rfl (by simp) fun hl ha Q hQ => ?_
  by_cases h1 : c ≥ 0 <;> by_cases h2 : c < 55296 <;> by_cases h3 : c > 57343 <;> by_cases h4 : c ≤ 1114111 <;>
    simp -implicitDefEqProofs only [stp,code_seq,evWanted,evOp,val,absV,evBin,evConv,evBuiltin,cmpInt,vals,partsOf,isAggD,cellsOf,isAggV,Nat.reduceEqDiff,Nat.reduceLT,Nat.reduceBEq,Nat.reduceBNe,reduceCtorEq,if_true,if_false,reduceIte,forall_const,IntKind.bits,IntKind.signed,eq_self_iff_true,finalOf,resultOf,cellsGood,AC.isCell,senv_mem,lift, Tryz.f114, ty3,ty4,ty5,ty9,ty21,ty22,ty33,ty34,ty23,ty36,ty40,ty73,ty71,ty75,ty80,ty77,ty90, h1, h2, h3, h4] <;>
    refine hQ _ _ _ _ (.c (.bool (isScalarB c))) (.inr rfl) ?_ ⟨rfl, rfl, rfl⟩ <;>
    simp -implicitDefEqProofs only [stp,code_seq,evWanted,evOp,val,absV,evBin,evConv,evBuiltin,cmpInt,vals,partsOf,isAggD,cellsOf,isAggV,Nat.reduceEqDiff,Nat.reduceLT,Nat.reduceBEq,Nat.reduceBNe,reduceCtorEq,if_true,if_false,reduceIte,forall_const,IntKind.bits,IntKind.signed,eq_self_iff_true,finalOf,resultOf,cellsGood,AC.isCell,senv_mem,lift, Tryz.f114] <;>
    simp [isScalarB] <;> omega

set_option maxRecDepth 20000 in
set_option maxHeartbeats 1000000 in
theorem refBytes2_ok (c : Int) (d : Seg) (n : Nat) : CallsA Tryz.prog (senv mem) B0 105 [.c (.int .i64 c)] d n fun v d' n' => Keeps d n d' ∧ n ≤ n' ∧ IntRow d' n v (scalarBytes c) := by
  refine callsA_code senv_ok none1_ok Tryz.func105 rfl (by decide) rfl rfl (by simp) fun hl ha Q hQ => ?_
  simp +decide -implicitDefEqProofs only [stp,code_seq,evWanted,evOp,val,absV,evBin,evConv,evBuiltin,cmpInt,vals,partsOf,isAggD,cellsOf,isAggV,Nat.reduceEqDiff,Nat.reduceLT,Nat.reduceBEq,Nat.reduceBNe,reduceCtorEq,if_true,if_false,reduceIte,forall_const,IntKind.bits,IntKind.signed,eq_self_iff_true,finalOf,resultOf,cellsGood,AC.isCell,senv_mem,lift, Tryz.f105, ty3,ty4,ty5,ty9,ty21,ty22,ty33,ty34,ty23,ty36,ty40,ty73,ty71,ty75,ty80,ty77,ty90, none1]
  refine call_mono (refScalar_ok c d n) fun v d1 n1 hR hl1 hle1 hok1 => ?_
  obtain ⟨rfl, rfl, rfl⟩ := hR
  cases hs : isScalarB c with
  | false =>
    simp +decide -implicitDefEqProofs only [stp,code_seq,evWanted,evOp,val,absV,evBin,evConv,evBuiltin,cmpInt,vals,partsOf,isAggD,cellsOf,isAggV,Nat.reduceEqDiff,Nat.reduceLT,Nat.reduceBEq,Nat.reduceBNe,reduceCtorEq,if_true,if_false,reduceIte,forall_const,IntKind.bits,IntKind.signed,eq_self_iff_true,finalOf,resultOf,cellsGood,AC.isCell,senv_mem,lift, Tryz.f105, ty3,ty4,ty5,ty9,ty21,ty22,ty33,ty34,ty23,ty36,ty40,ty73,ty71,ty75,ty80,ty77,ty90, none1]
    refine hQ _ _ _ _ (.c .sl0) (by simp) ?_ ⟨Keeps.refl _ _, Nat.le_refl _, .inl ⟨by rw [scalarBytes, hs]; rfl, rfl⟩⟩
    simp +decide -implicitDefEqProofs only [stp,code_seq,evWanted,evOp,val,absV,evBin,evConv,evBuiltin,cmpInt,vals,partsOf,isAggD,cellsOf,isAggV,Nat.reduceEqDiff,Nat.reduceLT,Nat.reduceBEq,Nat.reduceBNe,reduceCtorEq,if_true,if_false,reduceIte,forall_const,IntKind.bits,IntKind.signed,eq_self_iff_true,finalOf,resultOf,cellsGood,AC.isCell,senv_mem,lift, Tryz.f105]
  | true =>
    have hu : scalarBytes c = refList c := by rw [scalarBytes, hs, if_pos rfl, utf8_eq hs]
    simp only [isScalarB, Bool.or_eq_true, Bool.and_eq_true, decide_eq_true_eq] at hs
    have hc0 : 0 ≤ c := by omega
    have hc1 : c ≤ 1114111 := by omega
    have q1 : IntKind.i64.wrap (c.tdiv 64) = c / 64 := by rw [Int.tdiv_eq_ediv_of_nonneg hc0, wrap_id (by omega) (by omega)]
    have q2 : IntKind.i64.wrap (c.tdiv 4096) = c / 4096 := by rw [Int.tdiv_eq_ediv_of_nonneg hc0, wrap_id (by omega) (by omega)]
    have q3 : IntKind.i64.wrap (c.tdiv 262144) = c / 262144 := by rw [Int.tdiv_eq_ediv_of_nonneg hc0, wrap_id (by omega) (by omega)]
    have r1 : c.tmod 64 = c % 64 := Int.tmod_eq_emod_of_nonneg hc0
    have r2 : (c / 64).tmod 64 = c / 64 % 64 := Int.tmod_eq_emod_of_nonneg (by omega)
    have r3 : (c / 4096).tmod 64 = c / 4096 % 64 := Int.tmod_eq_emod_of_nonneg (by omega)
    have hfin : ∀ l : List Int, refList c = l → l ≠ [] → ∀ x s' n', (x = AX.norm ∨ x = AX.ret) → finalOf (senv mem) s' [(n1, some (.cells 3 (intsC l))) :: d1] Tryz.f105.results.toList = some (.c (.sl n1 l.length)) → n1 ≤ n' → Q x s' ((n1, some (.cells 3 (intsC l))) :: d1) n' := fun l he hne x s' n' hx hf hn =>
      hQ x s' _ _ (.c (.sl n1 l.length)) hx hf ⟨(Keeps.refl _ _).cons (Nat.le_refl _), hn, .inr ⟨by rw [hu, he]; exact hne, n1, Nat.le_refl _, by rw [hu, he], by rw [hu, he, get_cons, if_pos rfl]⟩⟩
    by_cases h1 : c < 128
    · simp +decide -implicitDefEqProofs only [stp,code_seq,evWanted,evOp,val,absV,evBin,evConv,evBuiltin,cmpInt,vals,partsOf,isAggD,cellsOf,isAggV,Nat.reduceEqDiff,Nat.reduceLT,Nat.reduceBEq,Nat.reduceBNe,reduceCtorEq,if_true,if_false,reduceIte,forall_const,IntKind.bits,IntKind.signed,eq_self_iff_true,finalOf,resultOf,cellsGood,AC.isCell,senv_mem,lift, ty3,ty4,ty5,ty9,ty21,ty22,ty33,ty34,ty23,ty36,ty40,ty73,ty71,ty75,ty80,ty77,ty90, none1, h1, spliceAll,allFields,places,splice,List.take_zero,List.take_succ_cons,List.take_nil,List.drop_zero,List.drop_succ_cons,List.drop_nil,List.nil_append,List.append_nil,List.cons_append,List.all_cons,List.all_nil,Option.isSome_some,Nat.reduceAdd,Nat.reduceSub,Nat.reduceMul,Nat.reduceMod,Nat.reduceLeDiff,List.range,List.range.loop,List.map_cons,List.map_nil,pfind]
      refine hfin [c] (by simp [refList, h1]) (by simp) _ _ _ (by simp) ?_ (by omega)
      simp +decide -implicitDefEqProofs only [stp,code_seq,evWanted,evOp,val,absV,evBin,evConv,evBuiltin,cmpInt,vals,partsOf,isAggD,cellsOf,isAggV,Nat.reduceEqDiff,Nat.reduceLT,Nat.reduceBEq,Nat.reduceBNe,reduceCtorEq,if_true,if_false,reduceIte,forall_const,IntKind.bits,IntKind.signed,eq_self_iff_true,finalOf,resultOf,cellsGood,AC.isCell,senv_mem,lift, Tryz.f105]
    by_cases h2 : c < 2048
    · have w1 : IntKind.i64.wrap (192 + c / 64) = 192 + c / 64 := wrap_id (by omega) (by omega)
      have w2 : IntKind.i64.wrap (128 + c % 64) = 128 + c % 64 := wrap_id (by omega) (by omega)
      simp +decide -implicitDefEqProofs only [stp,code_seq,evWanted,evOp,val,absV,evBin,evConv,evBuiltin,cmpInt,vals,partsOf,isAggD,cellsOf,isAggV,Nat.reduceEqDiff,Nat.reduceLT,Nat.reduceBEq,Nat.reduceBNe,reduceCtorEq,if_true,if_false,reduceIte,forall_const,IntKind.bits,IntKind.signed,eq_self_iff_true,finalOf,resultOf,cellsGood,AC.isCell,senv_mem,lift, ty3,ty4,ty5,ty9,ty21,ty22,ty33,ty34,ty23,ty36,ty40,ty73,ty71,ty75,ty80,ty77,ty90, none1, h1, h2, q1, r1, w1, w2, spliceAll,allFields,places,splice,List.take_zero,List.take_succ_cons,List.take_nil,List.drop_zero,List.drop_succ_cons,List.drop_nil,List.nil_append,List.append_nil,List.cons_append,List.all_cons,List.all_nil,Option.isSome_some,Nat.reduceAdd,Nat.reduceSub,Nat.reduceMul,Nat.reduceMod,Nat.reduceLeDiff,List.range,List.range.loop,List.map_cons,List.map_nil,pfind]
      refine hfin [192 + c / 64, 128 + c % 64] (by simp [refList, h1, h2]) (by simp) _ _ _ (by simp) ?_ (by omega)
      simp +decide -implicitDefEqProofs only [stp,code_seq,evWanted,evOp,val,absV,evBin,evConv,evBuiltin,cmpInt,vals,partsOf,isAggD,cellsOf,isAggV,Nat.reduceEqDiff,Nat.reduceLT,Nat.reduceBEq,Nat.reduceBNe,reduceCtorEq,if_true,if_false,reduceIte,forall_const,IntKind.bits,IntKind.signed,eq_self_iff_true,finalOf,resultOf,cellsGood,AC.isCell,senv_mem,lift, Tryz.f105]
    by_cases h3 : c < 65536
    · have w1 : IntKind.i64.wrap (224 + c / 4096) = 224 + c / 4096 := wrap_id (by omega) (by omega)
      have w2 : IntKind.i64.wrap (128 + c / 64 % 64) = 128 + c / 64 % 64 := wrap_id (by omega) (by omega)
      have w3 : IntKind.i64.wrap (128 + c % 64) = 128 + c % 64 := wrap_id (by omega) (by omega)
      simp +decide -implicitDefEqProofs only [stp,code_seq,evWanted,evOp,val,absV,evBin,evConv,evBuiltin,cmpInt,vals,partsOf,isAggD,cellsOf,isAggV,Nat.reduceEqDiff,Nat.reduceLT,Nat.reduceBEq,Nat.reduceBNe,reduceCtorEq,if_true,if_false,reduceIte,forall_const,IntKind.bits,IntKind.signed,eq_self_iff_true,finalOf,resultOf,cellsGood,AC.isCell,senv_mem,lift, ty3,ty4,ty5,ty9,ty21,ty22,ty33,ty34,ty23,ty36,ty40,ty73,ty71,ty75,ty80,ty77,ty90, none1, h1, h2, h3, q1, q2, r1, r2, w1, w2, w3, spliceAll,allFields,places,splice,List.take_zero,List.take_succ_cons,List.take_nil,List.drop_zero,List.drop_succ_cons,List.drop_nil,List.nil_append,List.append_nil,List.cons_append,List.all_cons,List.all_nil,Option.isSome_some,Nat.reduceAdd,Nat.reduceSub,Nat.reduceMul,Nat.reduceMod,Nat.reduceLeDiff,List.range,List.range.loop,List.map_cons,List.map_nil,pfind]
      refine hfin [224 + c / 4096, 128 + c / 64 % 64, 128 + c % 64] (by simp [refList, h1, h2, h3]) (by simp) _ _ _ (by simp) ?_ (by omega)
      simp +decide -implicitDefEqProofs only [stp,code_seq,evWanted,evOp,val,absV,evBin,evConv,evBuiltin,cmpInt,vals,partsOf,isAggD,cellsOf,isAggV,Nat.reduceEqDiff,Nat.reduceLT,Nat.reduceBEq,Nat.reduceBNe,reduceCtorEq,if_true,if_false,reduceIte,forall_const,IntKind.bits,IntKind.signed,eq_self_iff_true,finalOf,resultOf,cellsGood,AC.isCell,senv_mem,lift, Tryz.f105]
    · have w1 : IntKind.i64.wrap (240 + c / 262144) = 240 + c / 262144 := wrap_id (by omega) (by omega)
      have w2 : IntKind.i64.wrap (128 + c / 4096 % 64) = 128 + c / 4096 % 64 := wrap_id (by omega) (by omega)
      have w3 : IntKind.i64.wrap (128 + c / 64 % 64) = 128 + c / 64 % 64 := wrap_id (by omega) (by omega)
      have w4 : IntKind.i64.wrap (128 + c % 64) = 128 + c % 64 := wrap_id (by omega) (by omega)
      simp +decide -implicitDefEqProofs only [stp,code_seq,evWanted,evOp,val,absV,evBin,evConv,evBuiltin,cmpInt,vals,partsOf,isAggD,cellsOf,isAggV,Nat.reduceEqDiff,Nat.reduceLT,Nat.reduceBEq,Nat.reduceBNe,reduceCtorEq,if_true,if_false,reduceIte,forall_const,IntKind.bits,IntKind.signed,eq_self_iff_true,finalOf,resultOf,cellsGood,AC.isCell,senv_mem,lift, ty3,ty4,ty5,ty9,ty21,ty22,ty33,ty34,ty23,ty36,ty40,ty73,ty71,ty75,ty80,ty77,ty90, none1, h1, h2, h3, q1, q2, q3, r1, r2, r3, w1, w2, w3, w4, spliceAll,allFields,places,splice,List.take_zero,List.take_succ_cons,List.take_nil,List.drop_zero,List.drop_succ_cons,List.drop_nil,List.nil_append,List.append_nil,List.cons_append,List.all_cons,List.all_nil,Option.isSome_some,Nat.reduceAdd,Nat.reduceSub,Nat.reduceMul,Nat.reduceMod,Nat.reduceLeDiff,List.range,List.range.loop,List.map_cons,List.map_nil,pfind]
      refine hfin [240 + c / 262144, 128 + c / 4096 % 64, 128 + c / 64 % 64, 128 + c % 64] (by simp [refList, h1, h2, h3]) (by simp) _ _ _ (by simp) ?_ (by omega)
      simp +decide -implicitDefEqProofs only [stp,code_seq,evWanted,evOp,val,absV,evBin,evConv,evBuiltin,cmpInt,vals,partsOf,isAggD,cellsOf,isAggV,Nat.reduceEqDiff,Nat.reduceLT,Nat.reduceBEq,Nat.reduceBNe,reduceCtorEq,if_true,if_false,reduceIte,forall_const,IntKind.bits,IntKind.signed,eq_self_iff_true,finalOf,resultOf,cellsGood,AC.isCell,senv_mem,lift, Tryz.f105]

theorem refBytes_ok (c : Int) (utf : Bool) (d : Seg) (n : Nat) : CallsA Tryz.prog (senv mem) B0 88 [.c (.int .i64 c), .c (.bool utf)] d n fun v d' n' => Keeps d n d' ∧ n ≤ n' ∧ IntRow d' n v (senseBytes c utf) := by
  refine callsA_code senv_ok none1_ok Tryz.func88 rfl (by decide) rfl rfl (by simp) fun hl ha Q hQ => ?_
  cases utf with
  | true =>
    simp +decide -implicitDefEqProofs only [stp,code_seq,evWanted,evOp,val,absV,evBin,evConv,evBuiltin,cmpInt,vals,partsOf,isAggD,cellsOf,isAggV,Nat.reduceEqDiff,Nat.reduceLT,Nat.reduceBEq,Nat.reduceBNe,reduceCtorEq,if_true,if_false,reduceIte,forall_const,IntKind.bits,IntKind.signed,eq_self_iff_true,finalOf,resultOf,cellsGood,AC.isCell,senv_mem,lift, Tryz.f88, ty3,ty4,ty5,ty9,ty21,ty22,ty33,ty34,ty23,ty36,ty40,ty73,ty71,ty75,ty80,ty77,ty90, none1]
    refine call_mono (refBytes2_ok c d n) fun v d1 n1 hR hl1 hle1 hok1 => ?_
    obtain ⟨hk, hle, hr⟩ := hR
    simp +decide -implicitDefEqProofs only [stp,code_seq,evWanted,evOp,val,absV,evBin,evConv,evBuiltin,cmpInt,vals,partsOf,isAggD,cellsOf,isAggV,Nat.reduceEqDiff,Nat.reduceLT,Nat.reduceBEq,Nat.reduceBNe,reduceCtorEq,if_true,if_false,reduceIte,forall_const,IntKind.bits,IntKind.signed,eq_self_iff_true,finalOf,resultOf,cellsGood,AC.isCell,senv_mem,lift, ty3,ty4,ty5,ty9,ty21,ty22,ty33,ty34,ty23,ty36,ty40,ty73,ty71,ty75,ty80,ty77,ty90]
    refine hQ _ _ _ _ v (by simp) ?_ ⟨hk, hle, by rw [senseBytes, if_pos rfl]; exact hr⟩
    simp +decide -implicitDefEqProofs only [stp,code_seq,evWanted,evOp,val,absV,evBin,evConv,evBuiltin,cmpInt,vals,partsOf,isAggD,cellsOf,isAggV,Nat.reduceEqDiff,Nat.reduceLT,Nat.reduceBEq,Nat.reduceBNe,reduceCtorEq,if_true,if_false,reduceIte,forall_const,IntKind.bits,IntKind.signed,eq_self_iff_true,finalOf,resultOf,cellsGood,AC.isCell,senv_mem,lift, Tryz.f88]
  | false =>
    by_cases h1 : c ≥ 0
    · by_cases h2 : c < 256
      · simp +decide -implicitDefEqProofs only [stp,code_seq,evWanted,evOp,val,absV,evBin,evConv,evBuiltin,cmpInt,vals,partsOf,isAggD,cellsOf,isAggV,Nat.reduceEqDiff,Nat.reduceLT,Nat.reduceBEq,Nat.reduceBNe,reduceCtorEq,if_true,if_false,reduceIte,forall_const,IntKind.bits,IntKind.signed,eq_self_iff_true,finalOf,resultOf,cellsGood,AC.isCell,senv_mem,lift, Tryz.f88, ty3,ty4,ty5,ty9,ty21,ty22,ty33,ty34,ty23,ty36,ty40,ty73,ty71,ty75,ty80,ty77,ty90, none1, h1, h2, spliceAll,allFields,places,splice,List.take_zero,List.take_succ_cons,List.take_nil,List.drop_zero,List.drop_succ_cons,List.drop_nil,List.nil_append,List.append_nil,List.cons_append,List.all_cons,List.all_nil,Option.isSome_some,Nat.reduceAdd,Nat.reduceSub,Nat.reduceMul,Nat.reduceMod,Nat.reduceLeDiff,List.range,List.range.loop,List.map_cons,List.map_nil,pfind]
        refine hQ _ _ _ _ (.c (.sl n 1)) (by simp) ?_ ⟨(Keeps.refl _ _).cons (Nat.le_refl _), Nat.le_succ _, .inr ⟨?_, n, Nat.le_refl _, ?_, ?_⟩⟩
        · simp +decide -implicitDefEqProofs only [stp,code_seq,evWanted,evOp,val,absV,evBin,evConv,evBuiltin,cmpInt,vals,partsOf,isAggD,cellsOf,isAggV,Nat.reduceEqDiff,Nat.reduceLT,Nat.reduceBEq,Nat.reduceBNe,reduceCtorEq,if_true,if_false,reduceIte,forall_const,IntKind.bits,IntKind.signed,eq_self_iff_true,finalOf,resultOf,cellsGood,AC.isCell,senv_mem,lift, Tryz.f88]
        · rw [senseBytes, if_neg (by simp), if_pos ⟨h1, by omega⟩]; simp
        · rw [senseBytes, if_neg (by simp), if_pos ⟨h1, by omega⟩]; rfl
        · rw [senseBytes, if_neg (by simp), if_pos ⟨h1, by omega⟩]; simp -implicitDefEqProofs only [stp,code_seq,evWanted,evOp,val,absV,evBin,evConv,evBuiltin,cmpInt,vals,partsOf,isAggD,cellsOf,isAggV,Nat.reduceEqDiff,Nat.reduceLT,Nat.reduceBEq,Nat.reduceBNe,reduceCtorEq,if_true,if_false,reduceIte,forall_const,IntKind.bits,IntKind.signed,eq_self_iff_true,finalOf,resultOf,cellsGood,AC.isCell,senv_mem,lift]; rfl
      · simp +decide -implicitDefEqProofs only [stp,code_seq,evWanted,evOp,val,absV,evBin,evConv,evBuiltin,cmpInt,vals,partsOf,isAggD,cellsOf,isAggV,Nat.reduceEqDiff,Nat.reduceLT,Nat.reduceBEq,Nat.reduceBNe,reduceCtorEq,if_true,if_false,reduceIte,forall_const,IntKind.bits,IntKind.signed,eq_self_iff_true,finalOf,resultOf,cellsGood,AC.isCell,senv_mem,lift, Tryz.f88, ty3,ty4,ty5,ty9,ty21,ty22,ty33,ty34,ty23,ty36,ty40,ty73,ty71,ty75,ty80,ty77,ty90, none1, h1, h2]
        refine hQ _ _ _ _ (.c .sl0) (by simp) ?_ ⟨Keeps.refl _ _, Nat.le_refl _, .inl ⟨?_, rfl⟩⟩
        · simp +decide -implicitDefEqProofs only [stp,code_seq,evWanted,evOp,val,absV,evBin,evConv,evBuiltin,cmpInt,vals,partsOf,isAggD,cellsOf,isAggV,Nat.reduceEqDiff,Nat.reduceLT,Nat.reduceBEq,Nat.reduceBNe,reduceCtorEq,if_true,if_false,reduceIte,forall_const,IntKind.bits,IntKind.signed,eq_self_iff_true,finalOf,resultOf,cellsGood,AC.isCell,senv_mem,lift, Tryz.f88]
        · rw [senseBytes, if_neg (by simp), if_neg (fun x => h2 (by omega))]
    · simp +decide -implicitDefEqProofs only [stp,code_seq,evWanted,evOp,val,absV,evBin,evConv,evBuiltin,cmpInt,vals,partsOf,isAggD,cellsOf,isAggV,Nat.reduceEqDiff,Nat.reduceLT,Nat.reduceBEq,Nat.reduceBNe,reduceCtorEq,if_true,if_false,reduceIte,forall_const,IntKind.bits,IntKind.signed,eq_self_iff_true,finalOf,resultOf,cellsGood,AC.isCell,senv_mem,lift, Tryz.f88, ty3,ty4,ty5,ty9,ty21,ty22,ty33,ty34,ty23,ty36,ty40,ty73,ty71,ty75,ty80,ty77,ty90, none1, h1]
      refine hQ _ _ _ _ (.c .sl0) (by simp) ?_ ⟨Keeps.refl _ _, Nat.le_refl _, .inl ⟨?_, rfl⟩⟩
      · simp +decide -implicitDefEqProofs only [stp,code_seq,evWanted,evOp,val,absV,evBin,evConv,evBuiltin,cmpInt,vals,partsOf,isAggD,cellsOf,isAggV,Nat.reduceEqDiff,Nat.reduceLT,Nat.reduceBEq,Nat.reduceBNe,reduceCtorEq,if_true,if_false,reduceIte,forall_const,IntKind.bits,IntKind.signed,eq_self_iff_true,finalOf,resultOf,cellsGood,AC.isCell,senv_mem,lift, Tryz.f88]
      · rw [senseBytes, if_neg (by simp), if_neg (fun x => h1 x.1)]

theorem refBytes_calls (w : World) (c : Int) (utf : Bool) : Calls Tryz.prog 88 #[.int .i64 c, .bool utf] w fun e w' => ∃ v, e = .returned v ∧ IntsAt w' w'.heap.size v (senseBytes c utf) ∧ Below w.heap.size w w' := by
  have h := calls_of_abs (E := senv (memOf w)) (w := w) (fun b o v hv => memOf_ok hv) (by
    intro x hx
    simp only [List.mem_cons, List.not_mem_nil, or_false] at hx
    rcases hx with rfl | rfl <;> trivial) (refBytes_ok (mem := memOf w) (B0 := w.heap.size) c utf [] 0)
  refine h.mono ?_
  rintro e w' ⟨v, d, n, al, ρ, ⟨_, _, h3⟩, hrep, hb, hok, rfl⟩
  exact ⟨_, rfl, intRow_at hrep h3, hb⟩

end Go.Proofs.YtdpielghjaehbaaGreat.Ev
