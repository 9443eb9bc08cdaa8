/- sense: numbers' bytes, as rows. -/
import Derived.Test.YtdpielghjaehbaaGreatSa
set_option linter.unusedSectionVars false
set_option linter.unusedSimpArgs false
set_option linter.unusedVariables false
namespace Go.Proofs.YtdpielghjaehbaaGreat.Ev

variable {mem : Nat → Nat → Option Value} {B0 : Nat}

/-- What was there is as it was. -/
def Keeps (d : Seg) (n : Nat) (d' : Seg) : Prop := ∀ i, i < n → get [d'] i = get [d] i

theorem Keeps.refl (d : Seg) (n : Nat) : Keeps d n d := fun _ _ => rfl
theorem Keeps.trans {d d1 d2 : Seg} {n n1 : Nat} (h : Keeps d n d1) (k : Keeps d1 n1 d2) (hn : n ≤ n1) : Keeps d n d2 := fun i hi => (k i (by omega)).trans (h i hi)
theorem Keeps.cons {d : Seg} {n j : Nat} {o : Option AObj} {d' : Seg} (h : Keeps d n d') (hj : n ≤ j) : Keeps d n ((j, o) :: d') := fun i hi => by
  rw [get_cons, if_neg (by omega)]; exact h i hi

def intsC (l : List Int) : List AC := l.map fun x => .int .i64 x

/-- A list of numbers, as a row of its own. -/
def IntRow (d : Seg) (n : Nat) (v : AV) (l : List Int) : Prop := (l = [] ∧ v = .c .sl0) ∨ (l ≠ [] ∧ ∃ j, n ≤ j ∧ v = .c (.sl j l.length) ∧ get [d] j = some (.cells 3 (intsC l)))

def utf8 (c : Int) : List Int := (Utf8.encode c).data.toList.map fun b => (b.toNat : Int)
def scalarBytes (c : Int) : List Int := if isScalarB c then utf8 c else []

theorem encode_len (r : Int) : 0 < (Utf8.encode r).data.toList.length ∧ (Utf8.encode r).data.toList.length ≤ 4 := by
  unfold Utf8.encode
  simp only
  split <;> (try split) <;> (try split) <;> (try split) <;> simp

theorem splice_one (l : List AC) (i : Nat) (c : AC) (hi : i < l.length) : splice l i [c] = l.set i c := by
  simp only [splice, List.length_singleton]
  rw [List.set_eq_take_append_cons_drop, if_pos hi]
  simp

def filled (L : List UInt8) (i : Nat) : List AC := (L.take i).map (fun b => .int .i64 (b.toNat : Int)) ++ List.replicate (L.length - i) (.int .i64 0)

theorem filled_len (L : List UInt8) (i : Nat) (hi : i ≤ L.length) : (filled L i).length = L.length := by
  simp only [filled, List.length_append, List.length_map, List.length_take, List.length_replicate]; omega

theorem filled_step (L : List UInt8) (i : Nat) (hi : i < L.length) : splice (filled L i) i [.int .i64 (L[i].toNat : Int)] = filled L (i + 1) := by
  rw [splice_one _ _ _ (by rw [filled_len L i (by omega)]; exact hi)]
  have e : L.length - i = (L.length - (i + 1)) + 1 := by omega
  have hl : ((L.take i).map fun b => AC.int .i64 (b.toNat : Int)).length = i := by simp; omega
  simp only [filled]
  rw [e, List.replicate_succ, List.set_append_right _ _ (by omega), hl, Nat.sub_self, List.set_cons_zero, List.take_succ_eq_append_getElem hi, List.map_append]
  simp

theorem filled_all (L : List UInt8) : filled L L.length = intsC (L.map fun b => (b.toNat : Int)) := by
  simp [filled, intsC]

theorem scalarBytes_ok (c : Int) (d : Seg) (n : Nat) : CallsA Tryz.prog (senv mem) B0 39 [.c (.int .i64 c)] d n fun v d' n' => Keeps d n d' ∧ IntRow d' n v (scalarBytes c) := by
  refine callsA_code senv_ok none1_ok Tryz.func39 rfl (by decide) rfl rfl (by simp) fun hl ha Q hQ => ?_
  simp -implicitDefEqProofs only [stp,code_seq,evWanted,evOp,val,absV,evBin,evConv,evBuiltin,cmpInt,vals,partsOf,isAggD,cellsOf,isAggV,Nat.reduceEqDiff,Nat.reduceLT,Nat.reduceBEq,Nat.reduceBNe,reduceCtorEq,if_true,if_false,reduceIte,forall_const,IntKind.bits,IntKind.signed,eq_self_iff_true,finalOf,resultOf,cellsGood,AC.isCell,senv_mem,lift, Tryz.f39, ty3,ty4,ty5,ty9,ty21,ty22,ty33,ty34,ty23,ty36,ty40,ty73,ty71,ty75,ty80,ty77,ty90, none1]
  refine call_mono (isScalar_ok c d n) fun v d1 n1 ⟨hv, hd, hn⟩ hl' hle hok => ?_
  subst hv; subst hd; subst hn
  cases hsc : isScalarB c with
  | false =>
    simp -implicitDefEqProofs only [stp,code_seq,evWanted,evOp,val,absV,evBin,evConv,evBuiltin,cmpInt,vals,partsOf,isAggD,cellsOf,isAggV,Nat.reduceEqDiff,Nat.reduceLT,Nat.reduceBEq,Nat.reduceBNe,reduceCtorEq,if_true,if_false,reduceIte,forall_const,IntKind.bits,IntKind.signed,eq_self_iff_true,finalOf,resultOf,cellsGood,AC.isCell,senv_mem,lift, Tryz.f39, ty3,ty4,ty5,ty9,ty21,ty22,ty33,ty34,ty23,ty36,ty40,ty73,ty71,ty75,ty80,ty77,ty90]
    refine hQ _ _ _ _ (.c .sl0) (.inr rfl) ?_ ⟨Keeps.refl _ _, .inl ⟨by rw [scalarBytes, hsc]; rfl, rfl⟩⟩
    simp -implicitDefEqProofs only [stp,code_seq,evWanted,evOp,val,absV,evBin,evConv,evBuiltin,cmpInt,vals,partsOf,isAggD,cellsOf,isAggV,Nat.reduceEqDiff,Nat.reduceLT,Nat.reduceBEq,Nat.reduceBNe,reduceCtorEq,if_true,if_false,reduceIte,forall_const,IntKind.bits,IntKind.signed,eq_self_iff_true,finalOf,resultOf,cellsGood,AC.isCell,senv_mem,lift, Tryz.f39]
  | true =>
    have hw : IntKind.i32.wrap c = c := by
      rw [IntKind.wrap_i32]
      simp only [isScalarB, Bool.or_eq_true, Bool.and_eq_true, decide_eq_true_eq] at hsc
      omega
    obtain ⟨e0, e4⟩ := encode_len c
    generalize hL : (Utf8.encode c).data.toList = L at e0 e4
    have a0 : (0 : Int) ≤ L.length := by omega
    have a1 : (L.length : Int) ≤ 100000 := by omega
    simp +decide -implicitDefEqProofs only [stp,code_seq,evWanted,evOp,val,absV,evBin,evConv,evBuiltin,cmpInt,vals,partsOf,isAggD,cellsOf,isAggV,Nat.reduceEqDiff,Nat.reduceLT,Nat.reduceBEq,Nat.reduceBNe,reduceCtorEq,if_true,if_false,reduceIte,forall_const,IntKind.bits,IntKind.signed,eq_self_iff_true,finalOf,resultOf,cellsGood,AC.isCell,senv_mem,lift, Tryz.f39, ty3,ty4,ty5,ty9,ty21,ty22,ty33,ty34,ty23,ty36,ty40,ty73,ty71,ty75,ty80,ty77,ty90, hw, hL, a0, a1, Int.toNat_natCast]
    refine code_loop senv_ok none1_ok (fun k s d' n' => s.nt = 29 ∧ Keeps d1 n1 d' ∧ n1 < n' ∧ ∃ i : Nat, i + k = L.length ∧ s.get 3 = .c (.str L) ∧ s.get 4 = .c (.sl n1 L.length) ∧ s.get 16 = .c (.int .i64 L.length) ∧ s.get 17 = .c (.int .i64 i) ∧
      get [d'] n1 = some (.cells 3 (filled L i))) L.length ?_ ?_
    · refine ⟨rfl, (Keeps.refl _ _).cons (Nat.le_refl _), by omega, 0, by omega, ?_⟩
      simp +decide -implicitDefEqProofs only [stp,code_seq,evWanted,evOp,val,absV,evBin,evConv,evBuiltin,cmpInt,vals,partsOf,isAggD,cellsOf,isAggV,Nat.reduceEqDiff,Nat.reduceLT,Nat.reduceBEq,Nat.reduceBNe,reduceCtorEq,if_true,if_false,reduceIte,forall_const,IntKind.bits,IntKind.signed,eq_self_iff_true,finalOf,resultOf,cellsGood,AC.isCell,senv_mem,lift]
      exact ⟨rfl, by simp [filled]⟩
    · rintro k s d' n' ⟨hnt, hk, hn', i, hik, g3, g4, g16, g17, hob⟩ hl hs Q' hQ1 hQ2
      by_cases hi : (i : Int) < L.length
      · have hi' : i < L.length := by omega
        have hx1 : L[i]? = some L[i] := List.getElem?_eq_getElem hi'
        have hi0 : (0 : Int) ≤ i := by omega
        have hfl := filled_len L i (by omega)
        have hlt : i + 1 ≤ (filled L i).length := by omega
        have hw8 : IntKind.i64.wrap (L[i].toNat : Int) = (L[i].toNat : Int) := by have := (byte_cast L[i]); exact wrap_id (by omega) (by omega)
        simp +decide -implicitDefEqProofs only [stp,code_seq,evWanted,evOp,val,absV,evBin,evConv,evBuiltin,cmpInt,vals,partsOf,isAggD,cellsOf,isAggV,Nat.reduceEqDiff,Nat.reduceLT,Nat.reduceBEq,Nat.reduceBNe,reduceCtorEq,if_true,if_false,reduceIte,forall_const,IntKind.bits,IntKind.signed,eq_self_iff_true,finalOf,resultOf,cellsGood,AC.isCell,senv_mem,lift, ty3,ty4,ty5,ty9,ty21,ty22,ty33,ty34,ty23,ty36,ty40,ty73,ty71,ty75,ty80,ty77,ty90, hnt, g3, g4, g16, g17, hi, hi0, Int.toNat_natCast, hx1, hob, hlt, hw8, filled_step L i hi']
        refine hQ1 (k - 1) _ _ _ (by omega) ⟨?_, hk.cons (Nat.le_refl _), hn', i + 1, by omega, ?_⟩
        · simp only [nt_put, hnt]
        · simp +decide -implicitDefEqProofs only [stp,code_seq,evWanted,evOp,val,absV,evBin,evConv,evBuiltin,cmpInt,vals,partsOf,isAggD,cellsOf,isAggV,Nat.reduceEqDiff,Nat.reduceLT,Nat.reduceBEq,Nat.reduceBNe,reduceCtorEq,if_true,if_false,reduceIte,forall_const,IntKind.bits,IntKind.signed,eq_self_iff_true,finalOf,resultOf,cellsGood,AC.isCell,senv_mem,lift, hnt, g3, g4, g16]
          rw [wrap_succ (by omega)]
      · have hil : i = L.length := by omega
        subst hil
        simp -implicitDefEqProofs only [stp,code_seq,evWanted,evOp,val,absV,evBin,evConv,evBuiltin,cmpInt,vals,partsOf,isAggD,cellsOf,isAggV,Nat.reduceEqDiff,Nat.reduceLT,Nat.reduceBEq,Nat.reduceBNe,reduceCtorEq,if_true,if_false,reduceIte,forall_const,IntKind.bits,IntKind.signed,eq_self_iff_true,finalOf,resultOf,cellsGood,AC.isCell,senv_mem,lift, ty3,ty4,ty5,ty9,ty21,ty22,ty33,ty34,ty23,ty36,ty40,ty73,ty71,ty75,ty80,ty77,ty90, hnt, g3, g4, g16, g17, hi]
        refine hQ2 _ _ _ _ (by simp) ?_
        simp +decide -implicitDefEqProofs only [stp,code_seq,evWanted,evOp,val,absV,evBin,evConv,evBuiltin,cmpInt,vals,partsOf,isAggD,cellsOf,isAggV,Nat.reduceEqDiff,Nat.reduceLT,Nat.reduceBEq,Nat.reduceBNe,reduceCtorEq,if_true,if_false,reduceIte,forall_const,IntKind.bits,IntKind.signed,eq_self_iff_true,finalOf,resultOf,cellsGood,AC.isCell,senv_mem,lift, Tryz.f39, hnt, g4]
        refine hQ _ _ _ _ (.c (.sl n1 L.length)) (.inr rfl) ?_ ⟨hk, .inr ⟨?_, n1, Nat.le_refl _, ?_, ?_⟩⟩
        · simp +decide -implicitDefEqProofs only [stp,code_seq,evWanted,evOp,val,absV,evBin,evConv,evBuiltin,cmpInt,vals,partsOf,isAggD,cellsOf,isAggV,Nat.reduceEqDiff,Nat.reduceLT,Nat.reduceBEq,Nat.reduceBNe,reduceCtorEq,if_true,if_false,reduceIte,forall_const,IntKind.bits,IntKind.signed,eq_self_iff_true,finalOf,resultOf,cellsGood,AC.isCell,senv_mem,lift, Tryz.f39, hnt, g4]
        · rw [scalarBytes, hsc]; simp only [if_true, utf8, hL]
          intro e; rw [List.map_eq_nil_iff] at e; rw [e] at e0; simp at e0
        · rw [scalarBytes, hsc]; simp only [if_true, utf8, hL, List.length_map]
        · rw [hob, filled_all, scalarBytes, hsc]; simp only [if_true, utf8, hL]

def senseBytes (c : Int) (utf : Bool) : List Int := if utf then scalarBytes c else if 0 ≤ c ∧ c ≤ 255 then [c] else []

theorem senseBytes_ok (c : Int) (utf : Bool) (d : Seg) (n : Nat) : CallsA Tryz.prog (senv mem) B0 16 [.c (.int .i64 c), .c (.bool utf)] d n fun v d' n' => Keeps d n d' ∧ n ≤ n' ∧ IntRow d' n v (senseBytes c utf) := by
  refine callsA_code senv_ok none1_ok Tryz.func16 rfl (by decide) rfl rfl (by simp) fun hl ha Q hQ => ?_
  cases utf with
  | true =>
    simp +decide -implicitDefEqProofs only [stp,code_seq,evWanted,evOp,val,absV,evBin,evConv,evBuiltin,cmpInt,vals,partsOf,isAggD,cellsOf,isAggV,Nat.reduceEqDiff,Nat.reduceLT,Nat.reduceBEq,Nat.reduceBNe,reduceCtorEq,if_true,if_false,reduceIte,forall_const,IntKind.bits,IntKind.signed,eq_self_iff_true,finalOf,resultOf,cellsGood,AC.isCell,senv_mem,lift, Tryz.f16, ty3,ty4,ty5,ty9,ty21,ty22,ty33,ty34,ty23,ty36,ty40,ty73,ty71,ty75,ty80,ty77,ty90, none1]
    refine call_mono (scalarBytes_ok c d n) fun v d1 n1 ⟨hk, hr⟩ hl' hle hok => ?_
    simp +decide -implicitDefEqProofs only [stp,code_seq,evWanted,evOp,val,absV,evBin,evConv,evBuiltin,cmpInt,vals,partsOf,isAggD,cellsOf,isAggV,Nat.reduceEqDiff,Nat.reduceLT,Nat.reduceBEq,Nat.reduceBNe,reduceCtorEq,if_true,if_false,reduceIte,forall_const,IntKind.bits,IntKind.signed,eq_self_iff_true,finalOf,resultOf,cellsGood,AC.isCell,senv_mem,lift, Tryz.f16, ty3,ty4,ty5,ty9,ty21,ty22,ty33,ty34,ty23,ty36,ty40,ty73,ty71,ty75,ty80,ty77,ty90]
    refine hQ _ _ _ _ v (.inr rfl) ?_ ⟨hk, hle, by rw [senseBytes, if_pos rfl]; exact hr⟩
    simp +decide -implicitDefEqProofs only [stp,code_seq,evWanted,evOp,val,absV,evBin,evConv,evBuiltin,cmpInt,vals,partsOf,isAggD,cellsOf,isAggV,Nat.reduceEqDiff,Nat.reduceLT,Nat.reduceBEq,Nat.reduceBNe,reduceCtorEq,if_true,if_false,reduceIte,forall_const,IntKind.bits,IntKind.signed,eq_self_iff_true,finalOf,resultOf,cellsGood,AC.isCell,senv_mem,lift, Tryz.f16]
  | false =>
    by_cases h1 : c ≥ 0
    · by_cases h2 : c ≤ 255
      · simp +decide -implicitDefEqProofs only [stp,code_seq,evWanted,evOp,val,absV,evBin,evConv,evBuiltin,cmpInt,vals,partsOf,isAggD,cellsOf,isAggV,Nat.reduceEqDiff,Nat.reduceLT,Nat.reduceBEq,Nat.reduceBNe,reduceCtorEq,if_true,if_false,reduceIte,forall_const,IntKind.bits,IntKind.signed,eq_self_iff_true,finalOf,resultOf,cellsGood,AC.isCell,senv_mem,lift, Tryz.f16, ty3,ty4,ty5,ty9,ty21,ty22,ty33,ty34,ty23,ty36,ty40,ty73,ty71,ty75,ty80,ty77,ty90, none1, h1, h2, spliceAll, splice, List.range, List.range.loop, List.map_cons, List.map_nil, List.take_zero, List.take, List.drop, List.nil_append, List.append_nil, Nat.reduceMul, Nat.reduceAdd, Nat.reduceMod]
        refine hQ _ _ _ _ (.c (.sl n 1)) (.inr rfl) ?_ ⟨(Keeps.refl _ _).cons (Nat.le_refl _), Nat.le_succ _, .inr ⟨?_, n, Nat.le_refl _, ?_, ?_⟩⟩
        · simp +decide -implicitDefEqProofs only [stp,code_seq,evWanted,evOp,val,absV,evBin,evConv,evBuiltin,cmpInt,vals,partsOf,isAggD,cellsOf,isAggV,Nat.reduceEqDiff,Nat.reduceLT,Nat.reduceBEq,Nat.reduceBNe,reduceCtorEq,if_true,if_false,reduceIte,forall_const,IntKind.bits,IntKind.signed,eq_self_iff_true,finalOf,resultOf,cellsGood,AC.isCell,senv_mem,lift, Tryz.f16]
        · rw [senseBytes, if_neg (by simp), if_pos ⟨h1, h2⟩]; simp
        · rw [senseBytes, if_neg (by simp), if_pos ⟨h1, h2⟩]; rfl
        · rw [senseBytes, if_neg (by simp), if_pos ⟨h1, h2⟩]; simp -implicitDefEqProofs only [stp,code_seq,evWanted,evOp,val,absV,evBin,evConv,evBuiltin,cmpInt,vals,partsOf,isAggD,cellsOf,isAggV,Nat.reduceEqDiff,Nat.reduceLT,Nat.reduceBEq,Nat.reduceBNe,reduceCtorEq,if_true,if_false,reduceIte,forall_const,IntKind.bits,IntKind.signed,eq_self_iff_true,finalOf,resultOf,cellsGood,AC.isCell,senv_mem,lift]; rfl
      · simp +decide -implicitDefEqProofs only [stp,code_seq,evWanted,evOp,val,absV,evBin,evConv,evBuiltin,cmpInt,vals,partsOf,isAggD,cellsOf,isAggV,Nat.reduceEqDiff,Nat.reduceLT,Nat.reduceBEq,Nat.reduceBNe,reduceCtorEq,if_true,if_false,reduceIte,forall_const,IntKind.bits,IntKind.signed,eq_self_iff_true,finalOf,resultOf,cellsGood,AC.isCell,senv_mem,lift, Tryz.f16, ty3,ty4,ty5,ty9,ty21,ty22,ty33,ty34,ty23,ty36,ty40,ty73,ty71,ty75,ty80,ty77,ty90, none1, h1, h2]
        refine hQ _ _ _ _ (.c .sl0) (.inr rfl) ?_ ⟨Keeps.refl _ _, Nat.le_refl _, .inl ⟨?_, rfl⟩⟩
        · simp +decide -implicitDefEqProofs only [stp,code_seq,evWanted,evOp,val,absV,evBin,evConv,evBuiltin,cmpInt,vals,partsOf,isAggD,cellsOf,isAggV,Nat.reduceEqDiff,Nat.reduceLT,Nat.reduceBEq,Nat.reduceBNe,reduceCtorEq,if_true,if_false,reduceIte,forall_const,IntKind.bits,IntKind.signed,eq_self_iff_true,finalOf,resultOf,cellsGood,AC.isCell,senv_mem,lift, Tryz.f16]
        · rw [senseBytes, if_neg (by simp), if_neg (fun x => h2 x.2)]
    · simp +decide -implicitDefEqProofs only [stp,code_seq,evWanted,evOp,val,absV,evBin,evConv,evBuiltin,cmpInt,vals,partsOf,isAggD,cellsOf,isAggV,Nat.reduceEqDiff,Nat.reduceLT,Nat.reduceBEq,Nat.reduceBNe,reduceCtorEq,if_true,if_false,reduceIte,forall_const,IntKind.bits,IntKind.signed,eq_self_iff_true,finalOf,resultOf,cellsGood,AC.isCell,senv_mem,lift, Tryz.f16, ty3,ty4,ty5,ty9,ty21,ty22,ty33,ty34,ty23,ty36,ty40,ty73,ty71,ty75,ty80,ty77,ty90, none1, h1]
      refine hQ _ _ _ _ (.c .sl0) (.inr rfl) ?_ ⟨Keeps.refl _ _, Nat.le_refl _, .inl ⟨?_, rfl⟩⟩
      · simp +decide -implicitDefEqProofs only [stp,code_seq,evWanted,evOp,val,absV,evBin,evConv,evBuiltin,cmpInt,vals,partsOf,isAggD,cellsOf,isAggV,Nat.reduceEqDiff,Nat.reduceLT,Nat.reduceBEq,Nat.reduceBNe,reduceCtorEq,if_true,if_false,reduceIte,forall_const,IntKind.bits,IntKind.signed,eq_self_iff_true,finalOf,resultOf,cellsGood,AC.isCell,senv_mem,lift, Tryz.f16]
      · rw [senseBytes, if_neg (by simp), if_neg (fun x => h1 x.1)]

end Go.Proofs.YtdpielghjaehbaaGreat.Ev


/- sense: numbers as a text. -/
set_option linter.unusedSectionVars false
set_option linter.unusedSimpArgs false
set_option linter.unusedVariables false
namespace Go.Proofs.YtdpielghjaehbaaGreat.Ev

variable {mem : Nat → Nat → Option Value} {B0 : Nat}

/-- A list of numbers that comes in. -/
def IntArg (mem : Nat → Nat → Option Value) (d : Seg) (v : AV) (l : List Int) : Prop :=
  (v = .c .sl0 ∧ l = []) ∨ (∃ j, v = .c (.sl j l.length) ∧ get [d] j = some (.cells 3 (intsC l))) ∨
  (∃ b off cap, v = .c (.raw (.slice (some ⟨b, off, none⟩) l.length cap)) ∧ ∀ i x, l[i]? = some x → mem b (off + i) = some (.int .i64 x))

def u8s (l : List Int) : List UInt8 := l.map fun x => UInt8.ofNat x.toNat
def u8C (l : List UInt8) : List AC := l.map fun b => .int .u8 (b.toNat : Int)

def textOf (utf : Bool) : List Int → Option (List UInt8)
  | [] => some []
  | c :: r => if senseBytes c utf = [] then none else (textOf utf r).map (u8s (senseBytes c utf) ++ ·)

theorem utf8_bytes (c : Int) : ∀ x ∈ utf8 c, 0 ≤ x ∧ x < 256 := by
  intro x hx
  obtain ⟨b, _, rfl⟩ := List.mem_map.1 hx
  exact byte_cast b

theorem senseBytes_bytes (c : Int) (utf : Bool) : ∀ x ∈ senseBytes c utf, 0 ≤ x ∧ x < 256 := by
  intro x hx
  unfold senseBytes at hx
  split at hx
  · unfold scalarBytes at hx
    split at hx
    · exact utf8_bytes c x hx
    · cases hx
  · split at hx
    · rename_i h
      simp only [List.mem_singleton] at hx
      subst hx; omega
    · cases hx

theorem senseBytes_len (c : Int) (utf : Bool) : (senseBytes c utf).length ≤ 4 := by
  unfold senseBytes scalarBytes utf8
  have := (encode_len c).2
  split
  · split
    · simpa using this
    · simp
  · split <;> simp

/-- A row of bytes that grows. -/
def U8Row (d : Seg) (n j2 : Nat) (v : AV) (acc : List UInt8) : Prop := (acc = [] ∧ v = .c .sl0) ∨ (acc ≠ [] ∧ ∃ j, n ≤ j ∧ j ≠ j2 ∧ v = .c (.sl j acc.length) ∧ get [d] j = some (.cells 5 (u8C acc)))

theorem bytesOf_u8C : ∀ (l : List UInt8), bytesOfCells (u8C l) = some l
  | [] => rfl
  | b :: l => by
    have := bytesOf_u8C l
    simp only [u8C, List.map_cons, bytesOfCells] at this ⊢
    rw [this]
    simp

def SenseAt (d : Seg) (ix : Nat) (s : List UInt8) (utf : Bool) (k : Nat) (gr : Bool) : Prop := get [d] ix = some (.cells 73 [.str s, .bool utf, .mref k, .bool gr])

def textRes (utf : Bool) (l : List Int) : AV := match textOf utf l with
  | some b => .tup [.str b, .bool true]
  | none => .tup [.str [], .bool false]

theorem u8Row_new {n j2 : Nat} {acc : List UInt8} {b : UInt8} {v : AV} {d' : Seg} {j : Nat} (hj : n ≤ j) (hj2 : j ≠ j2) (hv : v = .c (.sl j (acc.length + 1))) (ho : get [d'] j = some (.cells 5 (u8C acc ++ [.int .u8 (b.toNat : Int)]))) : U8Row d' n j2 v (acc ++ [b]) :=
  .inr ⟨by simp, j, hj, hj2, by rw [hv]; simp, by rw [ho]; simp [u8C]⟩

theorem u8_of {x : Int} (h0 : 0 ≤ x) (h1 : x < 256) : IntKind.u8.wrap x = ((UInt8.ofNat x.toNat).toNat : Int) := by
  rw [IntKind.wrap_u8]
  have : (UInt8.ofNat x.toNat).toNat = x.toNat % 256 := by simp
  omega

theorem textOf_step {utf : Bool} {l : List Int} {i : Nat} {x : Int} (hx : l[i]? = some x) : textOf utf (l.drop i) = if senseBytes x utf = [] then none else (textOf utf (l.drop (i + 1))).map (u8s (senseBytes x utf) ++ ·) := by
  obtain ⟨h, rfl⟩ := List.getElem?_eq_some_iff.1 hx
  rw [List.drop_eq_getElem_cons h]
  rfl

set_option maxHeartbeats 1000000 in
theorem text_ok {d : Seg} {n ix k : Nat} {s0 : List UInt8} {utf gr : Bool} {v : AV} {l : List Int} (hx : SenseAt d ix s0 utf k gr) (hix : ix < n) (hv : IntArg mem d v l) (hl0 : l.length ≤ 20000) :
    CallsA Tryz.prog (senv mem) B0 60 [.c (.ptr ix 0), v] d n fun r d' n' => Keeps d n d' ∧ r = textRes utf l := by
  refine callsA_code senv_ok none1_ok Tryz.func60 rfl (by decide) rfl rfl (by simp) fun hl ha Q hQ => ?_
  rcases hv with ⟨rfl, rfl⟩ | ⟨j, rfl, hj⟩ | ⟨b, off, cap, rfl, hm⟩
  · simp +decide -implicitDefEqProofs only [stp,code_seq,evWanted,evOp,val,absV,evBin,evConv,evBuiltin,cmpInt,vals,partsOf,isAggD,cellsOf,isAggV,Nat.reduceEqDiff,Nat.reduceLT,Nat.reduceBEq,Nat.reduceBNe,reduceCtorEq,if_true,if_false,reduceIte,forall_const,IntKind.bits,IntKind.signed,eq_self_iff_true,finalOf,resultOf,cellsGood,AC.isCell,senv_mem,lift, Tryz.f60, ty3,ty4,ty5,ty9,ty21,ty22,ty33,ty34,ty23,ty36,ty40,ty73,ty71,ty75,ty80,ty77,ty90, none1]
    refine code_loop senv_ok none1_ok (fun q s d' n' => s.nt = 42 ∧ Keeps d n d' ∧ s.get 6 = .c .sl0 ∧ s.get 13 = .c (.int .i64 0) ∧ s.get 14 = .c (.int .i64 0)) 0 ?_ ?_
    · refine ⟨rfl, Keeps.refl _ _, ?_⟩
      simp +decide -implicitDefEqProofs only [stp,code_seq,evWanted,evOp,val,absV,evBin,evConv,evBuiltin,cmpInt,vals,partsOf,isAggD,cellsOf,isAggV,Nat.reduceEqDiff,Nat.reduceLT,Nat.reduceBEq,Nat.reduceBNe,reduceCtorEq,if_true,if_false,reduceIte,forall_const,IntKind.bits,IntKind.signed,eq_self_iff_true,finalOf,resultOf,cellsGood,AC.isCell,senv_mem,lift]
    · rintro q s d' n' ⟨hnt, hk, g6, g13, g14⟩ hl1 hs1 Q' hQ1 hQ2
      have hi : ¬ (0 : Int) < 0 := by omega
      simp +decide -implicitDefEqProofs only [stp,code_seq,evWanted,evOp,val,absV,evBin,evConv,evBuiltin,cmpInt,vals,partsOf,isAggD,cellsOf,isAggV,Nat.reduceEqDiff,Nat.reduceLT,Nat.reduceBEq,Nat.reduceBNe,reduceCtorEq,if_true,if_false,reduceIte,forall_const,IntKind.bits,IntKind.signed,eq_self_iff_true,finalOf,resultOf,cellsGood,AC.isCell,senv_mem,lift, ty3,ty4,ty5,ty9,ty21,ty22,ty33,ty34,ty23,ty36,ty40,ty73,ty71,ty75,ty80,ty77,ty90, hnt, g13, g14, hi]
      refine hQ2 _ _ _ _ (by simp) ?_
      simp +decide -implicitDefEqProofs only [stp,code_seq,evWanted,evOp,val,absV,evBin,evConv,evBuiltin,cmpInt,vals,partsOf,isAggD,cellsOf,isAggV,Nat.reduceEqDiff,Nat.reduceLT,Nat.reduceBEq,Nat.reduceBNe,reduceCtorEq,if_true,if_false,reduceIte,forall_const,IntKind.bits,IntKind.signed,eq_self_iff_true,finalOf,resultOf,cellsGood,AC.isCell,senv_mem,lift, Tryz.f60, ty3,ty4,ty5,ty9,ty21,ty22,ty33,ty34,ty23,ty36,ty40,ty73,ty71,ty75,ty80,ty77,ty90, hnt, g6]
      refine hQ _ _ _ _ (textRes utf []) (.inr rfl) ?_ ⟨hk, rfl⟩
      simp +decide -implicitDefEqProofs only [stp,code_seq,evWanted,evOp,val,absV,evBin,evConv,evBuiltin,cmpInt,vals,partsOf,isAggD,cellsOf,isAggV,Nat.reduceEqDiff,Nat.reduceLT,Nat.reduceBEq,Nat.reduceBNe,reduceCtorEq,if_true,if_false,reduceIte,forall_const,IntKind.bits,IntKind.signed,eq_self_iff_true,finalOf,resultOf,cellsGood,AC.isCell,senv_mem,lift, Tryz.f60, resultsOf, hnt, textRes, textOf]
  ·
    simp +decide -implicitDefEqProofs only [stp,code_seq,evWanted,evOp,val,absV,evBin,evConv,evBuiltin,cmpInt,vals,partsOf,isAggD,cellsOf,isAggV,Nat.reduceEqDiff,Nat.reduceLT,Nat.reduceBEq,Nat.reduceBNe,reduceCtorEq,if_true,if_false,reduceIte,forall_const,IntKind.bits,IntKind.signed,eq_self_iff_true,finalOf,resultOf,cellsGood,AC.isCell,senv_mem,lift, Tryz.f60, ty3,ty4,ty5,ty9,ty21,ty22,ty33,ty34,ty23,ty36,ty40,ty73,ty71,ty75,ty80,ty77,ty90, none1]
    refine code_loop senv_ok none1_ok (fun q s d' n' => s.nt = 42 ∧ Keeps d n d' ∧ n ≤ n' ∧ ∃ (i : Nat) (acc : List UInt8), i + q = l.length ∧ acc.length ≤ 4 * i ∧ s.get 0 = .c (.ptr ix 0) ∧ s.get 12 = .c (.sl j l.length) ∧ s.get 13 = .c (.int .i64 l.length) ∧ s.get 14 = .c (.int .i64 i) ∧
      U8Row d' n n' (s.get 6) acc ∧ textOf utf l = (textOf utf (l.drop i)).map (acc ++ ·)) l.length ?_ ?_
    · refine ⟨rfl, Keeps.refl _ _, Nat.le_refl _, 0, [], by omega, by simp, ?_⟩
      simp +decide -implicitDefEqProofs only [stp,code_seq,evWanted,evOp,val,absV,evBin,evConv,evBuiltin,cmpInt,vals,partsOf,isAggD,cellsOf,isAggV,Nat.reduceEqDiff,Nat.reduceLT,Nat.reduceBEq,Nat.reduceBNe,reduceCtorEq,if_true,if_false,reduceIte,forall_const,IntKind.bits,IntKind.signed,eq_self_iff_true,finalOf,resultOf,cellsGood,AC.isCell,senv_mem,lift]
      exact ⟨rfl, .inl ⟨rfl, rfl⟩, by rw [List.drop_zero]; cases textOf utf l <;> simp⟩
    · rintro q s d' n' ⟨hnt, hk, hn', i, acc, hiq, hacc, g0, g12, g13, g14, g6, htx⟩ hl1 hs1 Q' hQ1 hQ2
      by_cases hi : (i : Int) < l.length
      · have hi' : i < l.length := by omega
        obtain ⟨x, hxi⟩ : ∃ x, l[i]? = some x := ⟨_, List.getElem?_eq_getElem hi'⟩
        have hi0 : (0 : Int) ≤ i := by omega
        have hx' : get [d'] ix = some (.cells 73 [.str s0, .bool utf, .mref k, .bool gr]) := (hk ix hix).trans hx
        have hcell : (intsC l)[i]? = some (.int .i64 x) := by simp [intsC, hxi]
        have hld : get [d'] j = some (.cells 3 (intsC l)) := (hk j (hl j _ hj).1).trans hj
        simp +decide -implicitDefEqProofs only [stp,code_seq,evWanted,evOp,val,absV,evBin,evConv,evBuiltin,cmpInt,vals,partsOf,isAggD,cellsOf,isAggV,Nat.reduceEqDiff,Nat.reduceLT,Nat.reduceBEq,Nat.reduceBNe,reduceCtorEq,if_true,if_false,reduceIte,forall_const,IntKind.bits,IntKind.signed,eq_self_iff_true,finalOf,resultOf,cellsGood,AC.isCell,senv_mem,lift, ty3,ty4,ty5,ty9,ty21,ty22,ty33,ty34,ty23,ty36,ty40,ty73,ty71,ty75,ty80,ty77,ty90, hnt, g0, g12, g13, g14, hi, hi0, Int.toNat_natCast, hx', none1, hcell, hld, List.getElem?_cons_zero, List.getElem?_cons_succ]
        refine call_mono (senseBytes_ok x utf d' n') fun v1 d1 n1 hR hl2 _ hok => ?_
        obtain ⟨hk1, hle1, hr⟩ := hR
        have htx' := textOf_step (utf := utf) hxi
        generalize hbs : senseBytes x utf = bs at hr htx'
        rcases hr with ⟨rfl, rfl⟩ | ⟨hbne, j2, hj2, rfl, hrow⟩
        · simp +decide -implicitDefEqProofs only [stp,code_seq,evWanted,evOp,val,absV,evBin,evConv,evBuiltin,cmpInt,vals,partsOf,isAggD,cellsOf,isAggV,Nat.reduceEqDiff,Nat.reduceLT,Nat.reduceBEq,Nat.reduceBNe,reduceCtorEq,if_true,if_false,reduceIte,forall_const,IntKind.bits,IntKind.signed,eq_self_iff_true,finalOf,resultOf,cellsGood,AC.isCell,senv_mem,lift, ty3,ty4,ty5,ty9,ty21,ty22,ty33,ty34,ty23,ty36,ty40,ty73,ty71,ty75,ty80,ty77,ty90, hnt]
          refine hQ2 _ _ _ _ (by simp) ?_
          simp +decide -implicitDefEqProofs only [stp,code_seq,evWanted,evOp,val,absV,evBin,evConv,evBuiltin,cmpInt,vals,partsOf,isAggD,cellsOf,isAggV,Nat.reduceEqDiff,Nat.reduceLT,Nat.reduceBEq,Nat.reduceBNe,reduceCtorEq,if_true,if_false,reduceIte,forall_const,IntKind.bits,IntKind.signed,eq_self_iff_true,finalOf,resultOf,cellsGood,AC.isCell,senv_mem,lift]
          refine hQ _ _ _ _ (textRes utf l) (.inr rfl) ?_ ⟨hk.trans hk1 hn', rfl⟩
          simp +decide -implicitDefEqProofs only [stp,code_seq,evWanted,evOp,val,absV,evBin,evConv,evBuiltin,cmpInt,vals,partsOf,isAggD,cellsOf,isAggV,Nat.reduceEqDiff,Nat.reduceLT,Nat.reduceBEq,Nat.reduceBNe,reduceCtorEq,if_true,if_false,reduceIte,forall_const,IntKind.bits,IntKind.signed,eq_self_iff_true,finalOf,resultOf,cellsGood,AC.isCell,senv_mem,lift, Tryz.f60, resultsOf, hnt]
          rw [textRes, htx, htx']
          rfl
        · have hb0 : 0 < bs.length := List.length_pos_iff.2 hbne
          have hb4 : bs.length ≤ 4 := hbs ▸ senseBytes_len x utf
          have hbb : ∀ y ∈ bs, 0 ≤ y ∧ y < 256 := hbs ▸ senseBytes_bytes x utf
          have hz : ((bs.length : Int) == 0) = false := by simp; omega
          simp +decide -implicitDefEqProofs only [stp,code_seq,evWanted,evOp,val,absV,evBin,evConv,evBuiltin,cmpInt,vals,partsOf,isAggD,cellsOf,isAggV,Nat.reduceEqDiff,Nat.reduceLT,Nat.reduceBEq,Nat.reduceBNe,reduceCtorEq,if_true,if_false,reduceIte,forall_const,IntKind.bits,IntKind.signed,eq_self_iff_true,finalOf,resultOf,cellsGood,AC.isCell,senv_mem,lift, ty3,ty4,ty5,ty9,ty21,ty22,ty33,ty34,ty23,ty36,ty40,ty73,ty71,ty75,ty80,ty77,ty90, hnt, hz]
          refine code_loop senv_ok none1_ok (fun q s d2 n2 => s.nt = 42 ∧ Keeps d n d2 ∧ n1 ≤ n2 ∧ get [d2] j2 = some (.cells 3 (intsC bs)) ∧ ∃ m : Nat, m + q = bs.length ∧ s.get 0 = .c (.ptr ix 0) ∧ s.get 12 = .c (.sl j l.length) ∧ s.get 13 = .c (.int .i64 l.length) ∧ s.get 14 = .c (.int .i64 i) ∧
            s.get 27 = .c (.sl j2 bs.length) ∧ s.get 28 = .c (.int .i64 bs.length) ∧ s.get 29 = .c (.int .i64 m) ∧ U8Row d2 n j2 (s.get 6) (acc ++ u8s (bs.take m))) bs.length ?_ ?_
          · refine ⟨?_, hk.trans hk1 hn', Nat.le_refl _, hrow, 0, by omega, ?_⟩
            · simp only [nt_put, hnt]
            · simp +decide -implicitDefEqProofs only [stp,code_seq,evWanted,evOp,val,absV,evBin,evConv,evBuiltin,cmpInt,vals,partsOf,isAggD,cellsOf,isAggV,Nat.reduceEqDiff,Nat.reduceLT,Nat.reduceBEq,Nat.reduceBNe,reduceCtorEq,if_true,if_false,reduceIte,forall_const,IntKind.bits,IntKind.signed,eq_self_iff_true,finalOf,resultOf,cellsGood,AC.isCell,senv_mem,lift, hnt, g0, g12, g13, g14]
              refine ⟨rfl, ?_⟩
              rcases g6 with ⟨rfl, g6⟩ | ⟨hne, jb, hjb, _, g6, hgb⟩
              · exact .inl ⟨rfl, g6⟩
              · have := (hl1 jb _ hgb).1
                exact .inr ⟨by simpa [u8s] using hne, jb, hjb, by omega, by simpa [u8s] using g6, by rw [hk1 jb this, hgb]; simp [u8s]⟩
          · rintro q2 s2 d2 n2 ⟨hnt2, hk2, hn2, hrow2, m, hmq, f0, f12, f13, f14, f27, f28, f29, f6⟩ hl3 hs3 Q2 hQ3 hQ4
            by_cases hm1 : (m : Int) < bs.length
            · have hm' : m < bs.length := by omega
              have hm0 : (0 : Int) ≤ m := by omega
              have hj2n := (hl3 j2 _ hrow2).1
              have hcell2 : (intsC bs)[m]? = some (.int .i64 bs[m]) := by simp [intsC, List.getElem?_eq_getElem hm']
              have hy := hbb bs[m] (List.getElem_mem hm')
              have hyw := u8_of hy.1 hy.2
              have hacc2 : acc ++ u8s (bs.take (m + 1)) = (acc ++ u8s (bs.take m)) ++ [UInt8.ofNat bs[m].toNat] := by
                rw [List.take_succ_eq_append_getElem hm', u8s, u8s, List.map_append, List.append_assoc]; rfl
              have hal : (acc ++ u8s (bs.take m)).length ≤ 100000 := by simp [u8s]; omega
              generalize acc ++ u8s (bs.take m) = a at f6 hacc2 hal
              rcases f6 with ⟨rfl, f6⟩ | ⟨hne, jb, hjb, hjb2, f6, hgb⟩
              · simp +decide -implicitDefEqProofs only [stp,code_seq,evWanted,evOp,val,absV,evBin,evConv,evBuiltin,cmpInt,vals,partsOf,isAggD,cellsOf,isAggV,Nat.reduceEqDiff,Nat.reduceLT,Nat.reduceBEq,Nat.reduceBNe,reduceCtorEq,if_true,if_false,reduceIte,forall_const,IntKind.bits,IntKind.signed,eq_self_iff_true,finalOf,resultOf,cellsGood,AC.isCell,senv_mem,lift, ty3,ty4,ty5,ty9,ty21,ty22,ty33,ty34,ty23,ty36,ty40,ty73,ty71,ty75,ty80,ty77,ty90, hnt2, f0, f12, f13, f14, f27, f28, f29, f6, hm1, hm0, Int.toNat_natCast, hrow2, hcell2, hyw, evAppend, spliceAll, splice, List.range, List.range.loop, List.map_cons, List.map_nil, List.take_zero, List.take, List.drop, List.nil_append, List.append_nil, Nat.reduceMul, Nat.reduceAdd, Nat.reduceMod]
                refine hQ3 (q2 - 1) _ _ _ (by omega) ⟨by simp only [nt_put, hnt2], (hk2.cons (j := n2) (by omega)).cons (by omega), by omega, ?_, m + 1, by omega, ?_⟩
                · rw [get_cons, if_neg (by omega), get_cons, if_neg (by omega)]; exact hrow2
                · simp +decide -implicitDefEqProofs only [stp,code_seq,evWanted,evOp,val,absV,evBin,evConv,evBuiltin,cmpInt,vals,partsOf,isAggD,cellsOf,isAggV,Nat.reduceEqDiff,Nat.reduceLT,Nat.reduceBEq,Nat.reduceBNe,reduceCtorEq,if_true,if_false,reduceIte,forall_const,IntKind.bits,IntKind.signed,eq_self_iff_true,finalOf,resultOf,cellsGood,AC.isCell,senv_mem,lift, hnt2, f0, f12, f13, f14, f27, f28]
                  rw [wrap_succ (by omega), hacc2]
                  exact ⟨rfl, u8Row_new (j := n2 + 1) (by omega) (by omega) rfl (by rw [get_cons, if_pos rfl]; rfl)⟩
              · have e1 : ¬ n2 = jb := by have := (hl3 jb _ hgb).1; omega
                have e2 : (jb == n2) = false := by simpa using fun e => e1 (Eq.symm e)
                have e3 : (u8C a).length = a.length := by simp [u8C]
                have e4 : ¬ a.length > 100000 := by omega
                simp +decide -implicitDefEqProofs only [stp,code_seq,evWanted,evOp,val,absV,evBin,evConv,evBuiltin,cmpInt,vals,partsOf,isAggD,cellsOf,isAggV,Nat.reduceEqDiff,Nat.reduceLT,Nat.reduceBEq,Nat.reduceBNe,reduceCtorEq,if_true,if_false,reduceIte,forall_const,IntKind.bits,IntKind.signed,eq_self_iff_true,finalOf,resultOf,cellsGood,AC.isCell,senv_mem,lift, ty3,ty4,ty5,ty9,ty21,ty22,ty33,ty34,ty23,ty36,ty40,ty73,ty71,ty75,ty80,ty77,ty90, hnt2, f0, f12, f13, f14, f27, f28, f29, f6, hm1, hm0, Int.toNat_natCast, hrow2, hcell2, hyw, evAppend, hgb, e1, e2, e3, e4, spliceAll, splice, List.range, List.range.loop, List.map_cons, List.map_nil, List.take_zero, List.take, List.drop, List.nil_append, List.append_nil, Nat.reduceMul, Nat.reduceAdd, Nat.reduceMod]
                refine hQ3 (q2 - 1) _ _ _ (by omega) ⟨by simp only [nt_put, hnt2], ((hk2.cons (j := n2) (by omega)).cons hjb).cons (by omega), by omega, ?_, m + 1, by omega, ?_⟩
                · rw [get_cons, if_neg (by omega), get_cons, if_neg hjb2, get_cons, if_neg (by omega)]; exact hrow2
                · simp +decide -implicitDefEqProofs only [stp,code_seq,evWanted,evOp,val,absV,evBin,evConv,evBuiltin,cmpInt,vals,partsOf,isAggD,cellsOf,isAggV,Nat.reduceEqDiff,Nat.reduceLT,Nat.reduceBEq,Nat.reduceBNe,reduceCtorEq,if_true,if_false,reduceIte,forall_const,IntKind.bits,IntKind.signed,eq_self_iff_true,finalOf,resultOf,cellsGood,AC.isCell,senv_mem,lift, hnt2, f0, f12, f13, f14, f27, f28]
                  rw [wrap_succ (by omega), hacc2]
                  exact ⟨rfl, u8Row_new (j := n2 + 1) (by omega) (by omega) rfl (by rw [get_cons, if_pos rfl])⟩
            · simp +decide -implicitDefEqProofs only [stp,code_seq,evWanted,evOp,val,absV,evBin,evConv,evBuiltin,cmpInt,vals,partsOf,isAggD,cellsOf,isAggV,Nat.reduceEqDiff,Nat.reduceLT,Nat.reduceBEq,Nat.reduceBNe,reduceCtorEq,if_true,if_false,reduceIte,forall_const,IntKind.bits,IntKind.signed,eq_self_iff_true,finalOf,resultOf,cellsGood,AC.isCell,senv_mem,lift, ty3,ty4,ty5,ty9,ty21,ty22,ty33,ty34,ty23,ty36,ty40,ty73,ty71,ty75,ty80,ty77,ty90, hnt2, f0, f12, f13, f14, f27, f28, f29, hm1]
              refine hQ4 _ _ _ _ (by simp) ?_
              have hmb : m = bs.length := by omega
              subst hmb
              rw [List.take_length] at f6
              simp +decide -implicitDefEqProofs only [stp,code_seq,evWanted,evOp,val,absV,evBin,evConv,evBuiltin,cmpInt,vals,partsOf,isAggD,cellsOf,isAggV,Nat.reduceEqDiff,Nat.reduceLT,Nat.reduceBEq,Nat.reduceBNe,reduceCtorEq,if_true,if_false,reduceIte,forall_const,IntKind.bits,IntKind.signed,eq_self_iff_true,finalOf,resultOf,cellsGood,AC.isCell,senv_mem,lift, ty3,ty4,ty5,ty9,ty21,ty22,ty33,ty34,ty23,ty36,ty40,ty73,ty71,ty75,ty80,ty77,ty90, hnt2, f0, f12, f13, f14, f27, f28, f29]
              refine hQ1 (q - 1) _ _ _ (by omega) ⟨by simp only [nt_put, hnt2], hk2, by omega, i + 1, acc ++ u8s bs, by omega, by rw [List.length_append, u8s, List.length_map]; omega, ?_⟩
              simp +decide -implicitDefEqProofs only [stp,code_seq,evWanted,evOp,val,absV,evBin,evConv,evBuiltin,cmpInt,vals,partsOf,isAggD,cellsOf,isAggV,Nat.reduceEqDiff,Nat.reduceLT,Nat.reduceBEq,Nat.reduceBNe,reduceCtorEq,if_true,if_false,reduceIte,forall_const,IntKind.bits,IntKind.signed,eq_self_iff_true,finalOf,resultOf,cellsGood,AC.isCell,senv_mem,lift, hnt2, f0, f12, f13, f14]
              rw [wrap_succ (by omega)]
              refine ⟨rfl, ?_, ?_⟩
              · rcases f6 with f6 | ⟨h1, jb, h2, h3, h4, h5⟩
                · exact .inl f6
                · exact .inr ⟨h1, jb, h2, by have := (hl3 jb _ h5).1; omega, h4, h5⟩
              · rw [htx, htx', if_neg hbne]
                cases textOf utf (l.drop (i + 1)) <;> simp
      · have hil : l.length ≤ i := by omega
        rw [List.drop_eq_nil_of_le hil] at htx
        have htr : textRes utf l = .tup [.str acc, .bool true] := by rw [textRes, htx]; simp [textOf]
        simp +decide -implicitDefEqProofs only [stp,code_seq,evWanted,evOp,val,absV,evBin,evConv,evBuiltin,cmpInt,vals,partsOf,isAggD,cellsOf,isAggV,Nat.reduceEqDiff,Nat.reduceLT,Nat.reduceBEq,Nat.reduceBNe,reduceCtorEq,if_true,if_false,reduceIte,forall_const,IntKind.bits,IntKind.signed,eq_self_iff_true,finalOf,resultOf,cellsGood,AC.isCell,senv_mem,lift, ty3,ty4,ty5,ty9,ty21,ty22,ty33,ty34,ty23,ty36,ty40,ty73,ty71,ty75,ty80,ty77,ty90, hnt, g0, g12, g13, g14, hi]
        refine hQ2 _ _ _ _ (by simp) ?_
        rcases g6 with ⟨rfl, g6⟩ | ⟨hne, jb, hjb, _, g6, hgb⟩
        · simp +decide -implicitDefEqProofs only [stp,code_seq,evWanted,evOp,val,absV,evBin,evConv,evBuiltin,cmpInt,vals,partsOf,isAggD,cellsOf,isAggV,Nat.reduceEqDiff,Nat.reduceLT,Nat.reduceBEq,Nat.reduceBNe,reduceCtorEq,if_true,if_false,reduceIte,forall_const,IntKind.bits,IntKind.signed,eq_self_iff_true,finalOf,resultOf,cellsGood,AC.isCell,senv_mem,lift, Tryz.f60, ty3,ty4,ty5,ty9,ty21,ty22,ty33,ty34,ty23,ty36,ty40,ty73,ty71,ty75,ty80,ty77,ty90, hnt, g6]
          refine hQ _ _ _ _ (textRes utf l) (.inr rfl) ?_ ⟨hk, rfl⟩
          simp +decide -implicitDefEqProofs only [stp,code_seq,evWanted,evOp,val,absV,evBin,evConv,evBuiltin,cmpInt,vals,partsOf,isAggD,cellsOf,isAggV,Nat.reduceEqDiff,Nat.reduceLT,Nat.reduceBEq,Nat.reduceBNe,reduceCtorEq,if_true,if_false,reduceIte,forall_const,IntKind.bits,IntKind.signed,eq_self_iff_true,finalOf,resultOf,cellsGood,AC.isCell,senv_mem,lift, Tryz.f60, resultsOf, hnt, htr]
        · have e3 : (u8C acc).length = acc.length := by simp [u8C]
          have e5 : (u8C acc).take acc.length = u8C acc := List.take_of_length_le (by omega)
          simp +decide -implicitDefEqProofs only [stp,code_seq,evWanted,evOp,val,absV,evBin,evConv,evBuiltin,cmpInt,vals,partsOf,isAggD,cellsOf,isAggV,Nat.reduceEqDiff,Nat.reduceLT,Nat.reduceBEq,Nat.reduceBNe,reduceCtorEq,if_true,if_false,reduceIte,forall_const,IntKind.bits,IntKind.signed,eq_self_iff_true,finalOf,resultOf,cellsGood,AC.isCell,senv_mem,lift, Tryz.f60, ty3,ty4,ty5,ty9,ty21,ty22,ty33,ty34,ty23,ty36,ty40,ty73,ty71,ty75,ty80,ty77,ty90, hnt, g6, hgb, e3, e5, Nat.le_refl, bytesOf_u8C]
          refine hQ _ _ _ _ (textRes utf l) (.inr rfl) ?_ ⟨hk, rfl⟩
          simp +decide -implicitDefEqProofs only [stp,code_seq,evWanted,evOp,val,absV,evBin,evConv,evBuiltin,cmpInt,vals,partsOf,isAggD,cellsOf,isAggV,Nat.reduceEqDiff,Nat.reduceLT,Nat.reduceBEq,Nat.reduceBNe,reduceCtorEq,if_true,if_false,reduceIte,forall_const,IntKind.bits,IntKind.signed,eq_self_iff_true,finalOf,resultOf,cellsGood,AC.isCell,senv_mem,lift, Tryz.f60, resultsOf, hnt, htr]
  ·
    simp +decide -implicitDefEqProofs only [stp,code_seq,evWanted,evOp,val,absV,evBin,evConv,evBuiltin,cmpInt,vals,partsOf,isAggD,cellsOf,isAggV,Nat.reduceEqDiff,Nat.reduceLT,Nat.reduceBEq,Nat.reduceBNe,reduceCtorEq,if_true,if_false,reduceIte,forall_const,IntKind.bits,IntKind.signed,eq_self_iff_true,finalOf,resultOf,cellsGood,AC.isCell,senv_mem,lift, Tryz.f60, ty3,ty4,ty5,ty9,ty21,ty22,ty33,ty34,ty23,ty36,ty40,ty73,ty71,ty75,ty80,ty77,ty90, none1]
    refine code_loop senv_ok none1_ok (fun q s d' n' => s.nt = 42 ∧ Keeps d n d' ∧ n ≤ n' ∧ ∃ (i : Nat) (acc : List UInt8), i + q = l.length ∧ acc.length ≤ 4 * i ∧ s.get 0 = .c (.ptr ix 0) ∧ s.get 12 = .c (.raw (.slice (some ⟨b, off, none⟩) l.length cap)) ∧ s.get 13 = .c (.int .i64 l.length) ∧ s.get 14 = .c (.int .i64 i) ∧
      U8Row d' n n' (s.get 6) acc ∧ textOf utf l = (textOf utf (l.drop i)).map (acc ++ ·)) l.length ?_ ?_
    · refine ⟨rfl, Keeps.refl _ _, Nat.le_refl _, 0, [], by omega, by simp, ?_⟩
      simp +decide -implicitDefEqProofs only [stp,code_seq,evWanted,evOp,val,absV,evBin,evConv,evBuiltin,cmpInt,vals,partsOf,isAggD,cellsOf,isAggV,Nat.reduceEqDiff,Nat.reduceLT,Nat.reduceBEq,Nat.reduceBNe,reduceCtorEq,if_true,if_false,reduceIte,forall_const,IntKind.bits,IntKind.signed,eq_self_iff_true,finalOf,resultOf,cellsGood,AC.isCell,senv_mem,lift]
      exact ⟨rfl, .inl ⟨rfl, rfl⟩, by rw [List.drop_zero]; cases textOf utf l <;> simp⟩
    · rintro q s d' n' ⟨hnt, hk, hn', i, acc, hiq, hacc, g0, g12, g13, g14, g6, htx⟩ hl1 hs1 Q' hQ1 hQ2
      by_cases hi : (i : Int) < l.length
      · have hi' : i < l.length := by omega
        obtain ⟨x, hxi⟩ : ∃ x, l[i]? = some x := ⟨_, List.getElem?_eq_getElem hi'⟩
        have hi0 : (0 : Int) ≤ i := by omega
        have hx' : get [d'] ix = some (.cells 73 [.str s0, .bool utf, .mref k, .bool gr]) := (hk ix hix).trans hx
        have hcell : (intsC l)[i]? = some (.int .i64 x) := by simp [intsC, hxi]
        have hld := hm i x hxi
        simp +decide -implicitDefEqProofs only [stp,code_seq,evWanted,evOp,val,absV,evBin,evConv,evBuiltin,cmpInt,vals,partsOf,isAggD,cellsOf,isAggV,Nat.reduceEqDiff,Nat.reduceLT,Nat.reduceBEq,Nat.reduceBNe,reduceCtorEq,if_true,if_false,reduceIte,forall_const,IntKind.bits,IntKind.signed,eq_self_iff_true,finalOf,resultOf,cellsGood,AC.isCell,senv_mem,lift, ty3,ty4,ty5,ty9,ty21,ty22,ty33,ty34,ty23,ty36,ty40,ty73,ty71,ty75,ty80,ty77,ty90, hnt, g0, g12, g13, g14, hi, hi0, Int.toNat_natCast, hx', none1, hcell, hld, List.getElem?_cons_zero, List.getElem?_cons_succ]
        refine call_mono (senseBytes_ok x utf d' n') fun v1 d1 n1 hR hl2 _ hok => ?_
        obtain ⟨hk1, hle1, hr⟩ := hR
        have htx' := textOf_step (utf := utf) hxi
        generalize hbs : senseBytes x utf = bs at hr htx'
        rcases hr with ⟨rfl, rfl⟩ | ⟨hbne, j2, hj2, rfl, hrow⟩
        · simp +decide -implicitDefEqProofs only [stp,code_seq,evWanted,evOp,val,absV,evBin,evConv,evBuiltin,cmpInt,vals,partsOf,isAggD,cellsOf,isAggV,Nat.reduceEqDiff,Nat.reduceLT,Nat.reduceBEq,Nat.reduceBNe,reduceCtorEq,if_true,if_false,reduceIte,forall_const,IntKind.bits,IntKind.signed,eq_self_iff_true,finalOf,resultOf,cellsGood,AC.isCell,senv_mem,lift, ty3,ty4,ty5,ty9,ty21,ty22,ty33,ty34,ty23,ty36,ty40,ty73,ty71,ty75,ty80,ty77,ty90, hnt]
          refine hQ2 _ _ _ _ (by simp) ?_
          simp +decide -implicitDefEqProofs only [stp,code_seq,evWanted,evOp,val,absV,evBin,evConv,evBuiltin,cmpInt,vals,partsOf,isAggD,cellsOf,isAggV,Nat.reduceEqDiff,Nat.reduceLT,Nat.reduceBEq,Nat.reduceBNe,reduceCtorEq,if_true,if_false,reduceIte,forall_const,IntKind.bits,IntKind.signed,eq_self_iff_true,finalOf,resultOf,cellsGood,AC.isCell,senv_mem,lift]
          refine hQ _ _ _ _ (textRes utf l) (.inr rfl) ?_ ⟨hk.trans hk1 hn', rfl⟩
          simp +decide -implicitDefEqProofs only [stp,code_seq,evWanted,evOp,val,absV,evBin,evConv,evBuiltin,cmpInt,vals,partsOf,isAggD,cellsOf,isAggV,Nat.reduceEqDiff,Nat.reduceLT,Nat.reduceBEq,Nat.reduceBNe,reduceCtorEq,if_true,if_false,reduceIte,forall_const,IntKind.bits,IntKind.signed,eq_self_iff_true,finalOf,resultOf,cellsGood,AC.isCell,senv_mem,lift, Tryz.f60, resultsOf, hnt]
          rw [textRes, htx, htx']
          rfl
        · have hb0 : 0 < bs.length := List.length_pos_iff.2 hbne
          have hb4 : bs.length ≤ 4 := hbs ▸ senseBytes_len x utf
          have hbb : ∀ y ∈ bs, 0 ≤ y ∧ y < 256 := hbs ▸ senseBytes_bytes x utf
          have hz : ((bs.length : Int) == 0) = false := by simp; omega
          simp +decide -implicitDefEqProofs only [stp,code_seq,evWanted,evOp,val,absV,evBin,evConv,evBuiltin,cmpInt,vals,partsOf,isAggD,cellsOf,isAggV,Nat.reduceEqDiff,Nat.reduceLT,Nat.reduceBEq,Nat.reduceBNe,reduceCtorEq,if_true,if_false,reduceIte,forall_const,IntKind.bits,IntKind.signed,eq_self_iff_true,finalOf,resultOf,cellsGood,AC.isCell,senv_mem,lift, ty3,ty4,ty5,ty9,ty21,ty22,ty33,ty34,ty23,ty36,ty40,ty73,ty71,ty75,ty80,ty77,ty90, hnt, hz]
          refine code_loop senv_ok none1_ok (fun q s d2 n2 => s.nt = 42 ∧ Keeps d n d2 ∧ n1 ≤ n2 ∧ get [d2] j2 = some (.cells 3 (intsC bs)) ∧ ∃ m : Nat, m + q = bs.length ∧ s.get 0 = .c (.ptr ix 0) ∧ s.get 12 = .c (.raw (.slice (some ⟨b, off, none⟩) l.length cap)) ∧ s.get 13 = .c (.int .i64 l.length) ∧ s.get 14 = .c (.int .i64 i) ∧
            s.get 27 = .c (.sl j2 bs.length) ∧ s.get 28 = .c (.int .i64 bs.length) ∧ s.get 29 = .c (.int .i64 m) ∧ U8Row d2 n j2 (s.get 6) (acc ++ u8s (bs.take m))) bs.length ?_ ?_
          · refine ⟨?_, hk.trans hk1 hn', Nat.le_refl _, hrow, 0, by omega, ?_⟩
            · simp only [nt_put, hnt]
            · simp +decide -implicitDefEqProofs only [stp,code_seq,evWanted,evOp,val,absV,evBin,evConv,evBuiltin,cmpInt,vals,partsOf,isAggD,cellsOf,isAggV,Nat.reduceEqDiff,Nat.reduceLT,Nat.reduceBEq,Nat.reduceBNe,reduceCtorEq,if_true,if_false,reduceIte,forall_const,IntKind.bits,IntKind.signed,eq_self_iff_true,finalOf,resultOf,cellsGood,AC.isCell,senv_mem,lift, hnt, g0, g12, g13, g14]
              refine ⟨rfl, ?_⟩
              rcases g6 with ⟨rfl, g6⟩ | ⟨hne, jb, hjb, _, g6, hgb⟩
              · exact .inl ⟨rfl, g6⟩
              · have := (hl1 jb _ hgb).1
                exact .inr ⟨by simpa [u8s] using hne, jb, hjb, by omega, by simpa [u8s] using g6, by rw [hk1 jb this, hgb]; simp [u8s]⟩
          · rintro q2 s2 d2 n2 ⟨hnt2, hk2, hn2, hrow2, m, hmq, f0, f12, f13, f14, f27, f28, f29, f6⟩ hl3 hs3 Q2 hQ3 hQ4
            by_cases hm1 : (m : Int) < bs.length
            · have hm' : m < bs.length := by omega
              have hm0 : (0 : Int) ≤ m := by omega
              have hj2n := (hl3 j2 _ hrow2).1
              have hcell2 : (intsC bs)[m]? = some (.int .i64 bs[m]) := by simp [intsC, List.getElem?_eq_getElem hm']
              have hy := hbb bs[m] (List.getElem_mem hm')
              have hyw := u8_of hy.1 hy.2
              have hacc2 : acc ++ u8s (bs.take (m + 1)) = (acc ++ u8s (bs.take m)) ++ [UInt8.ofNat bs[m].toNat] := by
                rw [List.take_succ_eq_append_getElem hm', u8s, u8s, List.map_append, List.append_assoc]; rfl
              have hal : (acc ++ u8s (bs.take m)).length ≤ 100000 := by simp [u8s]; omega
              generalize acc ++ u8s (bs.take m) = a at f6 hacc2 hal
              rcases f6 with ⟨rfl, f6⟩ | ⟨hne, jb, hjb, hjb2, f6, hgb⟩
              · simp +decide -implicitDefEqProofs only [stp,code_seq,evWanted,evOp,val,absV,evBin,evConv,evBuiltin,cmpInt,vals,partsOf,isAggD,cellsOf,isAggV,Nat.reduceEqDiff,Nat.reduceLT,Nat.reduceBEq,Nat.reduceBNe,reduceCtorEq,if_true,if_false,reduceIte,forall_const,IntKind.bits,IntKind.signed,eq_self_iff_true,finalOf,resultOf,cellsGood,AC.isCell,senv_mem,lift, ty3,ty4,ty5,ty9,ty21,ty22,ty33,ty34,ty23,ty36,ty40,ty73,ty71,ty75,ty80,ty77,ty90, hnt2, f0, f12, f13, f14, f27, f28, f29, f6, hm1, hm0, Int.toNat_natCast, hrow2, hcell2, hyw, evAppend, spliceAll, splice, List.range, List.range.loop, List.map_cons, List.map_nil, List.take_zero, List.take, List.drop, List.nil_append, List.append_nil, Nat.reduceMul, Nat.reduceAdd, Nat.reduceMod]
                refine hQ3 (q2 - 1) _ _ _ (by omega) ⟨by simp only [nt_put, hnt2], (hk2.cons (j := n2) (by omega)).cons (by omega), by omega, ?_, m + 1, by omega, ?_⟩
                · rw [get_cons, if_neg (by omega), get_cons, if_neg (by omega)]; exact hrow2
                · simp +decide -implicitDefEqProofs only [stp,code_seq,evWanted,evOp,val,absV,evBin,evConv,evBuiltin,cmpInt,vals,partsOf,isAggD,cellsOf,isAggV,Nat.reduceEqDiff,Nat.reduceLT,Nat.reduceBEq,Nat.reduceBNe,reduceCtorEq,if_true,if_false,reduceIte,forall_const,IntKind.bits,IntKind.signed,eq_self_iff_true,finalOf,resultOf,cellsGood,AC.isCell,senv_mem,lift, hnt2, f0, f12, f13, f14, f27, f28]
                  rw [wrap_succ (by omega), hacc2]
                  exact ⟨rfl, u8Row_new (j := n2 + 1) (by omega) (by omega) rfl (by rw [get_cons, if_pos rfl]; rfl)⟩
              · have e1 : ¬ n2 = jb := by have := (hl3 jb _ hgb).1; omega
                have e2 : (jb == n2) = false := by simpa using fun e => e1 (Eq.symm e)
                have e3 : (u8C a).length = a.length := by simp [u8C]
                have e4 : ¬ a.length > 100000 := by omega
                simp +decide -implicitDefEqProofs only [stp,code_seq,evWanted,evOp,val,absV,evBin,evConv,evBuiltin,cmpInt,vals,partsOf,isAggD,cellsOf,isAggV,Nat.reduceEqDiff,Nat.reduceLT,Nat.reduceBEq,Nat.reduceBNe,reduceCtorEq,if_true,if_false,reduceIte,forall_const,IntKind.bits,IntKind.signed,eq_self_iff_true,finalOf,resultOf,cellsGood,AC.isCell,senv_mem,lift, ty3,ty4,ty5,ty9,ty21,ty22,ty33,ty34,ty23,ty36,ty40,ty73,ty71,ty75,ty80,ty77,ty90, hnt2, f0, f12, f13, f14, f27, f28, f29, f6, hm1, hm0, Int.toNat_natCast, hrow2, hcell2, hyw, evAppend, hgb, e1, e2, e3, e4, spliceAll, splice, List.range, List.range.loop, List.map_cons, List.map_nil, List.take_zero, List.take, List.drop, List.nil_append, List.append_nil, Nat.reduceMul, Nat.reduceAdd, Nat.reduceMod]
                refine hQ3 (q2 - 1) _ _ _ (by omega) ⟨by simp only [nt_put, hnt2], ((hk2.cons (j := n2) (by omega)).cons hjb).cons (by omega), by omega, ?_, m + 1, by omega, ?_⟩
                · rw [get_cons, if_neg (by omega), get_cons, if_neg hjb2, get_cons, if_neg (by omega)]; exact hrow2
                · simp +decide -implicitDefEqProofs only [stp,code_seq,evWanted,evOp,val,absV,evBin,evConv,evBuiltin,cmpInt,vals,partsOf,isAggD,cellsOf,isAggV,Nat.reduceEqDiff,Nat.reduceLT,Nat.reduceBEq,Nat.reduceBNe,reduceCtorEq,if_true,if_false,reduceIte,forall_const,IntKind.bits,IntKind.signed,eq_self_iff_true,finalOf,resultOf,cellsGood,AC.isCell,senv_mem,lift, hnt2, f0, f12, f13, f14, f27, f28]
                  rw [wrap_succ (by omega), hacc2]
                  exact ⟨rfl, u8Row_new (j := n2 + 1) (by omega) (by omega) rfl (by rw [get_cons, if_pos rfl])⟩
            · simp +decide -implicitDefEqProofs only [stp,code_seq,evWanted,evOp,val,absV,evBin,evConv,evBuiltin,cmpInt,vals,partsOf,isAggD,cellsOf,isAggV,Nat.reduceEqDiff,Nat.reduceLT,Nat.reduceBEq,Nat.reduceBNe,reduceCtorEq,if_true,if_false,reduceIte,forall_const,IntKind.bits,IntKind.signed,eq_self_iff_true,finalOf,resultOf,cellsGood,AC.isCell,senv_mem,lift, ty3,ty4,ty5,ty9,ty21,ty22,ty33,ty34,ty23,ty36,ty40,ty73,ty71,ty75,ty80,ty77,ty90, hnt2, f0, f12, f13, f14, f27, f28, f29, hm1]
              refine hQ4 _ _ _ _ (by simp) ?_
              have hmb : m = bs.length := by omega
              subst hmb
              rw [List.take_length] at f6
              simp +decide -implicitDefEqProofs only [stp,code_seq,evWanted,evOp,val,absV,evBin,evConv,evBuiltin,cmpInt,vals,partsOf,isAggD,cellsOf,isAggV,Nat.reduceEqDiff,Nat.reduceLT,Nat.reduceBEq,Nat.reduceBNe,reduceCtorEq,if_true,if_false,reduceIte,forall_const,IntKind.bits,IntKind.signed,eq_self_iff_true,finalOf,resultOf,cellsGood,AC.isCell,senv_mem,lift, ty3,ty4,ty5,ty9,ty21,ty22,ty33,ty34,ty23,ty36,ty40,ty73,ty71,ty75,ty80,ty77,ty90, hnt2, f0, f12, f13, f14, f27, f28, f29]
              refine hQ1 (q - 1) _ _ _ (by omega) ⟨by simp only [nt_put, hnt2], hk2, by omega, i + 1, acc ++ u8s bs, by omega, by rw [List.length_append, u8s, List.length_map]; omega, ?_⟩
              simp +decide -implicitDefEqProofs only [stp,code_seq,evWanted,evOp,val,absV,evBin,evConv,evBuiltin,cmpInt,vals,partsOf,isAggD,cellsOf,isAggV,Nat.reduceEqDiff,Nat.reduceLT,Nat.reduceBEq,Nat.reduceBNe,reduceCtorEq,if_true,if_false,reduceIte,forall_const,IntKind.bits,IntKind.signed,eq_self_iff_true,finalOf,resultOf,cellsGood,AC.isCell,senv_mem,lift, hnt2, f0, f12, f13, f14]
              rw [wrap_succ (by omega)]
              refine ⟨rfl, ?_, ?_⟩
              · rcases f6 with f6 | ⟨h1, jb, h2, h3, h4, h5⟩
                · exact .inl f6
                · exact .inr ⟨h1, jb, h2, by have := (hl3 jb _ h5).1; omega, h4, h5⟩
              · rw [htx, htx', if_neg hbne]
                cases textOf utf (l.drop (i + 1)) <;> simp
      · have hil : l.length ≤ i := by omega
        rw [List.drop_eq_nil_of_le hil] at htx
        have htr : textRes utf l = .tup [.str acc, .bool true] := by rw [textRes, htx]; simp [textOf]
        simp +decide -implicitDefEqProofs only [stp,code_seq,evWanted,evOp,val,absV,evBin,evConv,evBuiltin,cmpInt,vals,partsOf,isAggD,cellsOf,isAggV,Nat.reduceEqDiff,Nat.reduceLT,Nat.reduceBEq,Nat.reduceBNe,reduceCtorEq,if_true,if_false,reduceIte,forall_const,IntKind.bits,IntKind.signed,eq_self_iff_true,finalOf,resultOf,cellsGood,AC.isCell,senv_mem,lift, ty3,ty4,ty5,ty9,ty21,ty22,ty33,ty34,ty23,ty36,ty40,ty73,ty71,ty75,ty80,ty77,ty90, hnt, g0, g12, g13, g14, hi]
        refine hQ2 _ _ _ _ (by simp) ?_
        rcases g6 with ⟨rfl, g6⟩ | ⟨hne, jb, hjb, _, g6, hgb⟩
        · simp +decide -implicitDefEqProofs only [stp,code_seq,evWanted,evOp,val,absV,evBin,evConv,evBuiltin,cmpInt,vals,partsOf,isAggD,cellsOf,isAggV,Nat.reduceEqDiff,Nat.reduceLT,Nat.reduceBEq,Nat.reduceBNe,reduceCtorEq,if_true,if_false,reduceIte,forall_const,IntKind.bits,IntKind.signed,eq_self_iff_true,finalOf,resultOf,cellsGood,AC.isCell,senv_mem,lift, Tryz.f60, ty3,ty4,ty5,ty9,ty21,ty22,ty33,ty34,ty23,ty36,ty40,ty73,ty71,ty75,ty80,ty77,ty90, hnt, g6]
          refine hQ _ _ _ _ (textRes utf l) (.inr rfl) ?_ ⟨hk, rfl⟩
          simp +decide -implicitDefEqProofs only [stp,code_seq,evWanted,evOp,val,absV,evBin,evConv,evBuiltin,cmpInt,vals,partsOf,isAggD,cellsOf,isAggV,Nat.reduceEqDiff,Nat.reduceLT,Nat.reduceBEq,Nat.reduceBNe,reduceCtorEq,if_true,if_false,reduceIte,forall_const,IntKind.bits,IntKind.signed,eq_self_iff_true,finalOf,resultOf,cellsGood,AC.isCell,senv_mem,lift, Tryz.f60, resultsOf, hnt, htr]
        · have e3 : (u8C acc).length = acc.length := by simp [u8C]
          have e5 : (u8C acc).take acc.length = u8C acc := List.take_of_length_le (by omega)
          simp +decide -implicitDefEqProofs only [stp,code_seq,evWanted,evOp,val,absV,evBin,evConv,evBuiltin,cmpInt,vals,partsOf,isAggD,cellsOf,isAggV,Nat.reduceEqDiff,Nat.reduceLT,Nat.reduceBEq,Nat.reduceBNe,reduceCtorEq,if_true,if_false,reduceIte,forall_const,IntKind.bits,IntKind.signed,eq_self_iff_true,finalOf,resultOf,cellsGood,AC.isCell,senv_mem,lift, Tryz.f60, ty3,ty4,ty5,ty9,ty21,ty22,ty33,ty34,ty23,ty36,ty40,ty73,ty71,ty75,ty80,ty77,ty90, hnt, g6, hgb, e3, e5, Nat.le_refl, bytesOf_u8C]
          refine hQ _ _ _ _ (textRes utf l) (.inr rfl) ?_ ⟨hk, rfl⟩
          simp +decide -implicitDefEqProofs only [stp,code_seq,evWanted,evOp,val,absV,evBin,evConv,evBuiltin,cmpInt,vals,partsOf,isAggD,cellsOf,isAggV,Nat.reduceEqDiff,Nat.reduceLT,Nat.reduceBEq,Nat.reduceBNe,reduceCtorEq,if_true,if_false,reduceIte,forall_const,IntKind.bits,IntKind.signed,eq_self_iff_true,finalOf,resultOf,cellsGood,AC.isCell,senv_mem,lift, Tryz.f60, resultsOf, hnt, htr]

end Go.Proofs.YtdpielghjaehbaaGreat.Ev
