/- Regions that draw: with hints; by all orders, where a call says no more than its contract. -/
import Derived.Test.YtdpielghjaehbaaGreatRm
set_option linter.unusedSectionVars false
set_option linter.unusedSimpArgs false
set_option linter.unusedVariables false
namespace Go.Proofs.YtdpielghjaehbaaGreat.Ev
open Go.RowKit

section
variable (E : Env) (call : CallF) (ops : List Oper) (bits : List Nat) (hs : List (List Nat)) (B : List Seg) (s : Slots)

def hGo (l : List Oper) (k : Nat) (rs : List Rec) (n : Nat) : Option (List Rec × Nat) := evDrawGo E call ops bits hs B s l k rs n

def hOp : Option (AV × Seg × Nat) → Oper → List Oper → Nat → List Rec → Nat → Option (List Rec × Nat)
  | some (v, δ, n'), o, r, k, rs, n => if n ≤ n' then hGo E call ops bits hs B s r (k + 1) (⟨v, δ, n, n', o.dst⟩ :: rs) n' else none
  | none, _, _, _, _, _ => none

def hWant : Option Bool → Oper → List Oper → Nat → List Rec → Nat → Option (List Rec × Nat)
  | some true, o, r, k, rs, n => hOp E call ops bits hs B s (evOp E call (slotsAt s bits rs k) o (heapAt bits hs B rs k) [] n) o r k rs n
  | some false, o, r, k, rs, n => hGo E call ops bits hs B s r (k + 1) (⟨.c .undef, [], n, n, o.dst⟩ :: rs) n
  | none, _, _, _, _, _ => none

end

section
variable {E : Env} {call : CallF} {ops : List Oper} {bits : List Nat} {hs : List (List Nat)} {B : List Seg} {s : Slots} {n n' k : Nat} {rs : List Rec} {o : Oper} {r : List Oper} {v : AV} {δ : Seg}

theorem h_nil : hGo E call ops bits hs B s [] k rs n = some (rs, n) := rfl
theorem h_cons : hGo E call ops bits hs B s (o :: r) k rs n = hWant E call ops bits hs B s (evWanted (slotsAt s bits rs k) ops o) o r k rs n := by
  simp only [hGo, evDrawGo]
  cases evWanted (slotsAt s bits rs k) ops o with
  | none => rfl
  | some b => cases b with
    | false => rfl
    | true =>
      simp only [hWant]
      cases evOp E call (slotsAt s bits rs k) o (heapAt bits hs B rs k) [] n with
      | none => rfl
      | some x => rfl
theorem h_true : hWant E call ops bits hs B s (some true) o r k rs n = hOp E call ops bits hs B s (evOp E call (slotsAt s bits rs k) o (heapAt bits hs B rs k) [] n) o r k rs n := rfl
theorem h_false : hWant E call ops bits hs B s (some false) o r k rs n = hGo E call ops bits hs B s r (k + 1) (⟨.c .undef, [], n, n, o.dst⟩ :: rs) n := rfl
theorem h_some : hOp E call ops bits hs B s (some (v, δ, n)) o r k rs n = hGo E call ops bits hs B s r (k + 1) (⟨v, δ, n, n, o.dst⟩ :: rs) n := by simp only [hOp, Nat.le_refl, if_true]
theorem h_some1 : hOp E call ops bits hs B s (some (v, δ, n + 1)) o r k rs n = hGo E call ops bits hs B s r (k + 1) (⟨v, δ, n, n + 1, o.dst⟩ :: rs) (n + 1) := by simp only [hOp, Nat.le_succ, if_true]
theorem h_heap {i : Nat} : get ([] :: heapAt bits hs B rs k) i = if (hs.getD k []).any (fun x => x == i) then none else get (seen (bitOf bits k) rs k ++ B) i := by
  have key : ∀ l : List Nat, get ([] :: (l.map fun i => (i, (none : Option AObj))) :: (seen (bitOf bits k) rs k ++ B)) i = if l.any (fun x => x == i) then none else get (seen (bitOf bits k) rs k ++ B) i := by
    intro l
    simp only [get, look]
    induction l with
    | nil => simp [look]
    | cons a l ih =>
      simp only [List.map_cons, look, List.any_cons]
      by_cases hai : a = i
      · simp [hai]
      · simp only [beq_iff_eq, hai, if_false, show (a == i) = false by simpa using hai, Bool.false_or]
        exact ih
  exact key _

variable {P : Program} {B0 : Nat} {d : Seg} {K : List Fr} {Q : AX → Slots → Seg → Nat → Prop}

/-- A region that draws, whose operations need hints. -/
theorem code_drawnH {id : Nat} {ops : Array Oper} {call call' : CallF} (hE : EnvOk P E) (hcall' : CallOk P E B0 call') (hst : statOk ops = true) (bits : List Nat) (hbits : (befGo ops.toList []).reverse = bits) {rs rs2 : List Rec} {n1 : Nat} (ls : List (List Nat))
    (h1 : dGo E call' ops.toList bits [d] s ops.toList 0 [] n = some (rs, n1)) (hls : laters bits rs ops.toList.length rs.reverse 0 = ls) (hne : subAll ls [] = false)
    (h2 : hGo E call' ops.toList bits ls [d] s ops.toList 0 [] n = some (rs2, n')) (hl : subAll (laters bits rs2 ops.toList.length rs2.reverse 0) ls = true)
    (k : backK P E B0 call .norm ⟨s.nt, wrs s.nt (fun _ => true) rs2 ops.toList.length ++ s.l⟩ (flat rs2 d) n' K Q) :
    codeK P E B0 call (.region id ops true) s d n K Q := by
  refine ⟨aw_draw hE hcall' hst ?_ k.out⟩
  subst hbits
  unfold evDraw
  simp only
  unfold dGo at h1
  unfold hGo at h2
  rw [h1]
  simp only [hls, hne, Bool.false_eq_true, if_false, h2, hl, if_true]

end

/-! All orders. -/

section
variable {P : Program} {E : Env} {B0 : Nat} {call : CallF} {ops : Array Oper} {s : Slots} {d : Seg} {n : Nat}

/-- Whatever order the rest of the region takes. -/
def AnyA (P : Program) (E : Env) (B0 : Nat) (ops : Array Oper) (f : Nat) (listed : Array Bool) (s : Slots) (d : Seg) (n : Nat) (Q : Slots → Seg → Nat → Prop) : Prop :=
  ∀ al ρ w a (QN : Act → World → Prop), Rep E B0 ⟨[d], al, n, ρ, w⟩ → SlotsOk ρ al s a → (∀ s' d' n', Q s' d' n' → Post E B0 [] d n al ρ w a .norm s' d' n' (fun e a w => e = .normal ∧ QN a w)) → wpAny P .any ops (fun e a w => e = .normal ∧ QN a w) f listed a w

theorem aw_anyA (hE : EnvOk P E) {id : Nat} {Q : AX → Slots → Seg → Nat → Prop} (h : AnyA P E B0 ops ops.size (Array.replicate ops.size false) s d n (Q .norm)) : AW P E B0 (.region id ops true) s d n Q := by
  intro al ρ w a Q' hr hs hq
  have hr' : Rep E B0 ⟨[d], al, n, ρ, { w with drawn := w.drawn + 1 }⟩ := rep_world hr rfl
  refine Code.wp_mono (Q := fun e a w => e = .normal ∧ Q' .normal a w) (fun e a w ⟨he, h⟩ => he ▸ h) (wp_region_any hE.mixed (h al ρ _ a _ hr' hs fun s2 d2 n2 hQ => ?_))
  have := hq .norm s2 d2 n2 hQ
  intro δ ρ' al' w' a2 hd hst hs2 hdf2
  exact ⟨rfl, this δ ρ' al' w' a2 hd ⟨hst.rep, hst.al_eq, hst.n_le, hst.agree, hst.kept, hst.live, hst.ids, hst.size, hst.frame, hst.newb, hst.misc⟩ hs2 hdf2⟩

theorem code_anyA (hE : EnvOk P E) {id : Nat} {K : List Fr} {Q : AX → Slots → Seg → Nat → Prop} (h : AnyA P E B0 ops ops.size (Array.replicate ops.size false) s d n fun s' d' n' => backK P E B0 call .norm s' d' n' K Q) : codeK P E B0 call (.region id ops true) s d n K Q :=
  ⟨aw_anyA (Q := runK P E B0 call Q K) hE (fun al ρ w a QN hr hs hq => h al ρ w a QN hr hs fun s' d' n' hb => hq s' d' n' hb.out)⟩

theorem upon_conv {o : Oper} {a : Act} {K : Act → World → Prop} {QN : Act → World → Prop} {r : Result Next} (h : o.upon P a K (fun e a w => match e with | .normal => K a w | e => e = .normal ∧ QN a w) r) : o.upon P a K (fun e a w => e = .normal ∧ QN a w) r := by
  cases r with
  | ok x w => cases x <;> exact h
  | halt x w => cases x <;> exact h

theorem any_ready (hE : EnvOk P E) (hcall : CallOk P E B0 call) {f : Nat} {listed : Array Bool} {rs : List Nat} {Q : Slots → Seg → Nat → Prop} (hr : Region.ready .any ops listed = rs) (hne : rs ≠ [])
    (h : ∀ i ∈ rs, ∃ o, ops.toList[i]? = some o ∧ awOps P E B0 call ops.toList [o] s d n fun s' d' n' => AnyA P E B0 ops f (listed.setIfInBounds i true) s' d' n' Q) : AnyA P E B0 ops (f + 1) listed s d n Q := by
  intro al ρ w a QN hrep hs hq
  refine wpAny_all hr hne fun i hi => ?_
  obtain ⟨o, ho, hw⟩ := h i hi
  have ho : ops[i]? = some o := by simpa using ho
  have := awOps_ok hE hcall ops (Q' := fun e a w => match e with | .normal => wpAny P .any ops (fun e a w => e = .normal ∧ QN a w) f (listed.setIfInBounds i true) a w | e => e = .normal ∧ QN a w) [o] s d n _ al ρ w a hrep hs hw (fun s' d' n' hA => ?_)
  · unfold wpList at this
    unfold wpOp
    rw [ho]
    simp only
    split at this
    · rename_i hwt
      rw [if_pos hwt]
      rcases this with h | ⟨h1, h2⟩
      · exact .inl (upon_conv h)
      · exact .inr ⟨h1, h2⟩
    · rename_i hwt
      rw [if_neg hwt]
      exact this
  · intro δ ρ' al' w' a' hd hst hs' hdf
    exact hA al' ρ' w' a' QN hst.rep hs' (fun s2 d2 n2 hQ => (hq s2 d2 n2 hQ).after hd hst hdf)

theorem any_seq (hE : EnvOk P E) (hcall : CallOk P E B0 call) {listed : Array Bool} {Q : Slots → Seg → Nat → Prop} (k : Nat) (l : List Oper) (hl : l = ops.toList.drop k) (hB : Region.seqB .any ops l.length k listed = true)
    (h : awOps P E B0 call ops.toList l s d n Q) : AnyA P E B0 ops l.length listed s d n Q := by
  intro al ρ w a QN hrep hs hq
  refine wpAny_of_seq l k listed a w (fun j => ?_) hB (awOps_ok hE hcall ops l s d n Q al ρ w a hrep hs h hq)
  subst hl
  simp [List.getElem?_drop]

/-- First what yields the same whatever the world. -/
theorem any_take {f i : Nat} {listed : Array Bool} {o : Oper} {v : AV} {dt : Option Nat} {Q : Slots → Seg → Nat → Prop} (hi : ops.toList[i]? = some o) (hns : Region.noSelect ops = true) (hf : Region.free .any ops listed i = true) (hrd : (Region.ready .any ops listed).contains i = true)
    (hg : o.guard = none) (hdt : o.dst = dt) (hy : ∀ ρ al a, SlotsOk ρ al s a → (∀ w, (execOp a.eval o).run P w = .ok (.value (concV ρ v)) w) ∧ v.ok al) (h : AnyA P E B0 ops f (listed.setIfInBounds i true) (s.put dt v) d n Q) : AnyA P E B0 ops (f + 1) listed s d n Q := by
  intro al ρ w a QN hrep hs hq
  have hi : ops[i]? = some o := by simpa using hi
  subst hdt
  have hw : evWanted s ops.toList o = some true := by unfold evWanted; rw [hg]
  obtain ⟨y1, y2⟩ := hy ρ al a hs
  refine wpAny_take hi hns hf hrd (fun c a w h => by cases h.1) (.inl ⟨by
    have := evWanted_ok hs hw
    simpa using this, y1⟩) ?_
  refine h al ρ w _ QN hrep (hs.put o.dst y2) fun s' d' n' hQ => ?_
  exact (hq s' d' n' hQ).after (δ := []) rfl (Step.refl hrep) (put_defers _ _ _)

end

section
variable {P : Program} {E : Env} {s : Slots} {o : Oper}

theorem yields_move {x : Operand} {v : AV} (ho : o.op = .move x) (hv : val s x = some v) : ∀ ρ al a, SlotsOk ρ al s a → (∀ w, (execOp a.eval o).run P w = .ok (.value (concV ρ v)) w) ∧ v.ok al := fun ρ al a hs => by
  obtain ⟨e, k⟩ := val_conc hs hv
  exact ⟨fun w => by simp [execOp, ho, e], k⟩

theorem yields_field (hE : EnvOk P E) {t f i off : Nat} {r rf : TyRow} {x : Operand} {fields : Array Field} {fd : Field} (ho : o.op = .fieldAddr t x f) (hr : assoc E.tys t = some r) (hx : val s x = some (.c (.ptr i off))) (hd : r.desc = .struct fields) (hf : fields.toList[f]? = some fd) (hrf : assoc E.tys fd.type = some rf) (h0 : rf.size ≠ 0) :
    ∀ ρ al a, SlotsOk ρ al s a → (∀ w, (execOp a.eval o).run P w = .ok (.value (concV ρ (.c (.ptr i (off + fd.offset))))) w) ∧ (AV.c (.ptr i (off + fd.offset))).ok al := fun ρ al a hs => by
  obtain ⟨ex, kx⟩ := val_conc hs hx
  refine ⟨fun w => ?_, kx⟩
  have hu := (hE.tys t r hr).und
  rw [hd] at hu
  obtain ⟨inf, z, h1, h2, h3, h4, h5⟩ := (hE.tys _ rf hrf).info
  have hf' : fields[f]? = some fd := by simpa using hf
  have ex' : a.eval x = .pointer (some ⟨(ρ i).1, off, none⟩) := ex
  simp [execOp, ho, ex', Instr.fieldAt, Instr.sureAddr, run_underlying hu, hf', fieldPlace, sizeOf, typeInfo, h1, h2, h0, concV, conc, Addr.add_lit]

theorem yields_sub {t t' : Nat} {x y : Operand} {p q : Int} (ho : o.op = .binOp .sub t x y t') (hx : val s x = some (.c (.int .i64 p))) (hy : val s y = some (.c (.int .i64 q))) :
    ∀ ρ al a, SlotsOk ρ al s a → (∀ w, (execOp a.eval o).run P w = .ok (.value (concV ρ (.c (.int .i64 (IntKind.i64.wrap (p - q)))))) w) ∧ (AV.c (.int .i64 (IntKind.i64.wrap (p - q)))).ok al := fun ρ al a hs => by
  obtain ⟨ex, kx⟩ := val_conc hs hx
  obtain ⟨ey, ky⟩ := val_conc hs hy
  have ex' : a.eval x = .int .i64 p := ex
  have ey' : a.eval y = .int .i64 q := ey
  refine ⟨fun w => ?_, trivial⟩
  have hg : (eqGuard .sub t x y (.int .i64 p) (.int .i64 q)).run P w = .ok () w := by unfold eqGuard; simp
  simp [execOp, ho, ex', ey', hg, Go.binOp, Op.intArith, concV, conc]

end

theorem Sets.adds' {j n m : Nat} {d d' : Seg} (h : Sets j m d d') (hj : n ≤ j) (hn : n ≤ m) : Adds n d d' := by
  obtain ⟨δ, rfl, h1⟩ := h
  exact ⟨δ, rfl, fun p hp => by rcases h1 p hp with h | h <;> omega⟩

/-- Plain facts of lists, as one. -/
theorem bld : type_of% @List.take_zero.{0} ∧ type_of% @List.take_succ_cons.{0} ∧ type_of% @List.take_nil.{0} ∧ type_of% @List.drop_zero.{0} ∧ type_of% @List.drop_succ_cons.{0} ∧ type_of% @List.drop_nil.{0} ∧ type_of% @List.nil_append.{0} ∧ type_of% @List.append_nil.{0} ∧ type_of% @List.cons_append.{0} ∧ type_of% @List.all_cons.{0} ∧ type_of% @List.all_nil.{0} ∧ type_of% @Option.isSome_some.{0} ∧ type_of% @List.map_cons.{0,0} ∧ type_of% @List.map_nil.{0,0} := ⟨@List.take_zero.{0}, @List.take_succ_cons.{0}, @List.take_nil.{0}, @List.drop_zero.{0}, @List.drop_succ_cons.{0}, @List.drop_nil.{0}, @List.nil_append.{0}, @List.append_nil.{0}, @List.cons_append.{0}, @List.all_cons.{0}, @List.all_nil.{0}, @Option.isSome_some.{0}, @List.map_cons.{0,0}, @List.map_nil.{0,0}⟩
/-- The rows of types, as one. -/
theorem ltyA : type_of% @lty3 ∧ type_of% @lty4 ∧ type_of% @lty5 ∧ type_of% @lty9 ∧ type_of% @lty22 ∧ type_of% @lty33 ∧ type_of% @lty25 ∧ type_of% @lty34 ∧ type_of% @lty23 ∧ type_of% @lty36 ∧ type_of% @lty40 ∧ type_of% @lty98 ∧ type_of% @lty96 ∧ type_of% @lty93 ∧ type_of% @lty95 ∧ type_of% @lty54 ∧ type_of% @lty38 ∧ type_of% @lty31 := ⟨@lty3, @lty4, @lty5, @lty9, @lty22, @lty33, @lty25, @lty34, @lty23, @lty36, @lty40, @lty98, @lty96, @lty93, @lty95, @lty54, @lty38, @lty31⟩

/-! What lies from a number on. -/

def newOnly (n : Nat) (d : Seg) : Seg := d.filter fun p => decide (n ≤ p.1)

theorem get_newOnly {n i : Nat} : ∀ {d : Seg}, get [newOnly n d] i = if n ≤ i then get [d] i else none
  | [] => by simp [newOnly, get, look]
  | (j, o) :: d => by
    have ih := get_newOnly (n := n) (i := i) (d := d)
    simp only [newOnly, get] at ih ⊢
    by_cases hj : n ≤ j
    · rw [List.filter_cons_of_pos (by simpa using hj)]
      simp only [look]
      by_cases hji : (j == i) = true
      · rw [if_pos hji, if_pos hji]
        have : j = i := by simpa using hji
        rw [if_pos (by omega)]
      · rw [if_neg hji, if_neg hji]
        exact ih
    · rw [List.filter_cons_of_neg (by simpa using hj)]
      simp only [look]
      by_cases hji : (j == i) = true
      · have : j = i := by simpa using hji
        rw [ih]
        rw [if_neg (by omega), if_neg (by omega)]
      · rw [if_neg hji]
        exact ih

/-- A tree of expressions whose objects are all new. -/
def TreeAt (n : Nat) (d : Seg) (e : Ex) (cs : List AC) : Prop := isEx [newOnly n d] e cs = true

theorem TreeAt.keep {n m n1 : Nat} {d d' : Seg} {e : Ex} {cs : List AC} (h : TreeAt n d e cs) (hl : Live d m) (hk : ∀ i, n ≤ i → i < m → get [d'] i = get [d] i) (hn : n1 ≤ n) : TreeAt n1 d' e cs := by
  have := isEx_sh (H := [newOnly n d]) (H' := [newOnly n1 d']) (n := 0) (fun i o ho => by
    rw [shO_zero, Nat.add_zero]
    rw [get_newOnly] at ho ⊢
    split at ho
    · rename_i hi
      rw [if_pos (by omega), hk i hi (hl i o ho).1]; exact ho
    · cases ho) e cs h
  rwa [show cs.map (shC 0) = cs by rw [show shC 0 = id from funext shC_zero]; simp] at this

theorem TreeAt.at_ {n : Nat} {d : Seg} {e : Ex} {cs : List AC} (h : TreeAt n d e cs) : isEx [d] e cs = true := by
  have := isEx_sh (H := [newOnly n d]) (H' := [d]) (n := 0) (fun i o ho => by
    rw [shO_zero, Nat.add_zero]
    rw [get_newOnly] at ho
    split at ho
    · exact ho
    · cases ho) e cs h
  rwa [show cs.map (shC 0) = cs by rw [show shC 0 = id from funext shC_zero]; simp] at this

theorem isKids_keep {H H' : List Seg} (h : ∀ i o, get H i = some o → get H' i = some o) {l : List Ex} {cs : List AC} (e : isKids H l cs = true) : isKids H' l cs = true := by
  have := isKids_sh (H := H) (H' := H') (n := 0) (fun i o ho => by rw [shO_zero, Nat.add_zero]; exact h i o ho) l cs e
  rwa [show cs.map (shC 0) = cs by rw [show shC 0 = id from funext shC_zero]; simp] at this

theorem isEx_keep {H H' : List Seg} (h : ∀ i o, get H i = some o → get H' i = some o) {e : Ex} {cs : List AC} (hx : isEx H e cs = true) : isEx H' e cs = true := by
  have := isEx_sh (H := H) (H' := H') (n := 0) (fun i o ho => by rw [shO_zero, Nat.add_zero]; exact h i o ho) e cs hx
  rwa [show cs.map (shC 0) = cs by rw [show shC 0 = id from funext shC_zero]; simp] at this

theorem isKids_snoc {H : List Seg} {e : Ex} {cs : List AC} (h6 : cs.length = 6) (hx : isEx H e cs = true) : ∀ (es : List Ex) (kcs : List AC), kcs.length = es.length * 6 → isKids H es kcs = true → isKids H (es ++ [e]) (kcs ++ cs) = true
  | [], kcs, hl, _ => by
    have hk : kcs = [] := List.eq_nil_of_length_eq_zero (by simpa using hl)
    subst hk
    simp [isKids, List.take_of_length_le (show cs.length ≤ 6 by omega), hx]
  | x :: es, kcs, hl, h => by
    simp only [isKids, Bool.and_eq_true, List.cons_append] at h ⊢
    have hl' : kcs.length = es.length * 6 + 6 := by simp only [List.length_cons] at hl; omega
    rw [List.take_append_of_le_length (by omega), List.drop_append_of_le_length (by omega)]
    exact ⟨h.1, isKids_snoc h6 hx es _ (by rw [List.length_drop]; omega) h.2⟩

theorem wfAll_of {NM : List (List UInt8)} : ∀ {l : List Ex}, (∀ e ∈ l, wfEx NM e = true) → wfAll NM l = true
  | [], _ => rfl
  | x :: l, h => by
    simp only [wfAll, Bool.and_eq_true]
    exact ⟨h x (List.mem_cons_self ..), wfAll_of fun e he => h e (List.mem_cons_of_mem _ he)⟩

end Go.Proofs.YtdpielghjaehbaaGreat.Ev
