/- A region that draws its order, all but its last operations: these read alone, and the rest comes behind. -/
import Derived.Test.YtdpielghjaehbaaGreatEvX
import Derived.StillTail
import Derived.Test.YtdpielghjaehbaaGreatEvW
set_option linter.unusedSectionVars false
set_option linter.unusedSimpArgs false
set_option linter.unusedVariables false
namespace Go.Proofs.YtdpielghjaehbaaGreat.Ev
open Go.RowKit

section
variable {P : Program} {E : Env} {B0 : Nat} {B : List Seg} {d d' : Seg} {al : Nat → Prop} {n n' : Nat} {ρ : Rho} {w : World} {s : Slots} {a : Act} {o : Oper} {v : AV} {call : CallF}

/-- It yields v, and the world is as it was. -/
def Stays (P : Program) (o : Oper) (a : Act) (al : Nat → Prop) (ρ : Rho) (w : World) (v : AV) : Prop := (execOp a.eval o).run P w = .ok (.value (concV ρ v)) w ∧ v.ok al

variable (h : Rep E B0 ⟨d :: B, al, n, ρ, w⟩) (hE : EnvOk P E) (hs : SlotsOk ρ al s a)
include h hE hs

theorem stays_move {x : Operand} (ho : o.op = .move x ∨ o.op = .assign x) (hv : val s x = some v) : Stays P o a al ρ w v := by
  obtain ⟨e, k⟩ := val_conc hs hv
  refine ⟨?_, k⟩
  rcases ho with ho | ho <;> simp [execOp, ho, e]

theorem stays_nilCheck {x : Operand} {i off : Nat} (ho : o.op = .nilCheck x) (hx : val s x = some (.c (.ptr i off))) : Stays P o a al ρ w (.c (.ptr i off)) := by
  obtain ⟨ex, kx⟩ := val_conc hs hx
  refine ⟨?_, kx⟩
  simp [execOp, ho, ex, concV, conc]

theorem stays_nilCheck_raw {x : Operand} {p : Addr} (ho : o.op = .nilCheck x) (hx : val s x = some (.c (.raw (.pointer (some p))))) : Stays P o a al ρ w (.c (.raw (.pointer (some p)))) := by
  obtain ⟨ex, kx⟩ := val_conc hs hx
  refine ⟨?_, kx⟩
  simp [execOp, ho, ex, concV, conc]

theorem stays_load {t : Nat} {r : TyRow} {x : Operand} {i off e : Nat} {cs : List AC} (ho : o.op = .load t x) (hr : assoc E.tys t = some r) (hx : val s x = some (.c (.ptr i off))) (hob : get (d :: B) i = some (.cells e cs))
    (hv : (if isAggD r.desc then (if off + r.size ≤ cs.length then some (AV.agg ((cs.drop off).take r.size)) else none)
        else (match cs[off]? with
          | some x => some (.c x)
          | none => none)) = some v) : Stays P o a al ρ w v := by
  obtain ⟨ex, kx⟩ := val_conc hs hx
  obtain ⟨hl, hk⟩ := loadVar_run h hE hs hr hob hv
  refine ⟨?_, hk⟩
  simp [execOp, ho, eq_ptr ex, Instr.loadAt, Instr.sureAddr, hl]

theorem stays_loadRaw {t : Nat} {r : TyRow} {x : Operand} {b off : Nat} (ho : o.op = .load t x) (hr : assoc E.tys t = some r) (hx : val s x = some (.c (.raw (.pointer (some ⟨b, off, none⟩)))))
    (hv : (if isAggD r.desc then (match memCells E b off r.size with
        | some l => some (AV.agg l)
        | none => none)
      else (match E.mem b off with
        | some x => some (.c (lift x))
        | none => none)) = some v) : Stays P o a al ρ w v := by
  obtain ⟨ex, kx⟩ := val_conc hs hx
  obtain ⟨inf, z, h1, h2, h3, h4, h5⟩ := info_of h hE hs hr
  cases ha : isAggD r.desc with
  | true =>
    rw [ha] at hv
    simp only [if_true] at hv
    split at hv
    · rename_i l hl
      simp only [Option.some.injEq] at hv
      subst hv
      obtain ⟨g1, g2, g3⟩ := memCells_spec h hE hs r.size b off l hl
      refine ⟨?_, g2⟩
      have hrun := run_loadCells_list (P := P) w ⟨b, off, none⟩ (concs ρ l) (fun j u hj => by rw [Addr.add_lit]; exact g3 j u hj)
      rw [length_concs, g1] at hrun
      simp [execOp, ho, ex, concV, conc, Instr.loadAt, Instr.sureAddr, loadVar, isAgg_run h hE hs hr, ha, sizeOf, typeInfo, h1, h2, hrun]
    · cases hv
  | false =>
    rw [ha] at hv
    simp only [Bool.false_eq_true, if_false] at hv
    split at hv
    · rename_i u hu
      simp only [Option.some.injEq] at hv
      subst hv
      refine ⟨?_, (ok_lift al u)⟩
      have hc := (h.mem b off u hu).2
      simp only at hc
      have ex' : a.eval x = .pointer (some ⟨b, off, none⟩) := ex
      rw [show concV ρ (.c (lift u)) = u from conc_lift ρ u]
      simp [execOp, ho, ex', Instr.loadAt, Instr.sureAddr, loadVar, isAgg_run h hE hs hr, ha, hc]
    · cases hv

theorem stays_fieldAddr {t f : Nat} {r rf : TyRow} {x : Operand} {i off : Nat} {fields : Array Field} {fd : Field} (ho : o.op = .fieldAddr t x f) (hr : assoc E.tys t = some r) (hx : val s x = some (.c (.ptr i off)))
    (hd : r.desc = .struct fields) (hf : fields.toList[f]? = some fd) (hrf : assoc E.tys fd.type = some rf) (h0 : rf.size ≠ 0) : Stays P o a al ρ w (.c (.ptr i (off + fd.offset))) := by
  obtain ⟨ex, kx⟩ := val_conc hs hx
  refine ⟨?_, kx⟩
  have hu := (hE.tys t r hr).und
  rw [hd] at hu
  obtain ⟨inf, z, h1, h2, h3, h4, h5⟩ := info_of h hE hs hrf
  have hf' : fields[f]? = some fd := by simpa using hf
  simp [execOp, ho, eq_ptr ex, Instr.fieldAt, Instr.sureAddr, run_underlying hu, hf', fieldPlace, sizeOf, typeInfo, h1, h2, h0, concV, conc, Addr.add_lit]

theorem stays_indexAddr {t e : Nat} {r re : TyRow} {x y : Operand} {i len : Nat} {kk : IntKind} {k : Int} (ho : o.op = .indexAddr t x y) (hr : assoc E.tys t = some r) (hx : val s x = some (.c (.sl i len))) (hy : val s y = some (.c (.int kk k)))
    (hd : r.desc = .slice e) (hre : assoc E.tys e = some re) (h0 : 0 ≤ k) (h1 : k < len) : Stays P o a al ρ w (.c (.ptr i (k.toNat * re.size))) := by
  obtain ⟨ex, kx⟩ := val_conc hs hx
  obtain ⟨ey, ky⟩ := val_conc hs hy
  refine ⟨?_, kx⟩
  have hu := (hE.tys t r hr).und
  rw [hd] at hu
  obtain ⟨inf, z, g1, g2, g3, g4, g5⟩ := info_of h hE hs hre
  simp [execOp, ho, eq_sl h hE hs ex, eq_int h hE hs ey, Instr.indexAt, asIntOf, run_underlying hu, h0, h1, sizeOf, typeInfo, g1, g2, concV, conc, Addr.add_lit]

theorem stays_fieldAddr_raw {t f : Nat} {r rf : TyRow} {x : Operand} {b off : Nat} {fields : Array Field} {fd : Field} (ho : o.op = .fieldAddr t x f) (hr : assoc E.tys t = some r) (hx : val s x = some (.c (.raw (.pointer (some ⟨b, off, none⟩)))))
    (hd : r.desc = .struct fields) (hf : fields.toList[f]? = some fd) (hrf : assoc E.tys fd.type = some rf) (h0 : rf.size ≠ 0) : Stays P o a al ρ w (.c (.raw (.pointer (some ⟨b, off + fd.offset, none⟩)))) := by
  obtain ⟨ex, kx⟩ := val_conc hs hx
  refine ⟨?_, trivial⟩
  have hu := (hE.tys t r hr).und
  rw [hd] at hu
  obtain ⟨inf, z, h1, h2, h3, h4, h5⟩ := info_of h hE hs hrf
  have hf' : fields[f]? = some fd := by simpa using hf
  simp [execOp, ho, eq_raw h hE hs ex, Instr.fieldAt, Instr.sureAddr, run_underlying hu, hf', fieldPlace, sizeOf, typeInfo, h1, h2, h0, concV, conc, Addr.add_lit]

theorem stays_indexAddr_raw {t e : Nat} {r re : TyRow} {x y : Operand} {b off len cap : Nat} {kk : IntKind} {k : Int} (ho : o.op = .indexAddr t x y) (hr : assoc E.tys t = some r) (hx : val s x = some (.c (.raw (.slice (some ⟨b, off, none⟩) len cap)))) (hy : val s y = some (.c (.int kk k)))
    (hd : r.desc = .slice e) (hre : assoc E.tys e = some re) (h0 : 0 ≤ k) (h1 : k < len) : Stays P o a al ρ w (.c (.raw (.pointer (some ⟨b, off + k.toNat * re.size, none⟩)))) := by
  obtain ⟨ex, kx⟩ := val_conc hs hx
  obtain ⟨ey, ky⟩ := val_conc hs hy
  refine ⟨?_, trivial⟩
  have hu := (hE.tys t r hr).und
  rw [hd] at hu
  obtain ⟨inf, z, g1, g2, g3, g4, g5⟩ := info_of h hE hs hre
  simp [execOp, ho, eq_raw h hE hs ex, eq_int h hE hs ey, Instr.indexAt, asIntOf, run_underlying hu, h0, h1, sizeOf, typeInfo, g1, g2, concV, conc, Addr.add_lit]

/-- Operations that read alone. -/
def readsOnly : Op → Bool
  | .move _ | .assign _ | .nilCheck _ | .load _ _ | .fieldAddr _ _ _ | .indexAddr _ _ _ => true
  | _ => false

theorem evOp_stays (hq : readsOnly o.op = true) (hev : evOp E call s o B d n = some (v, d', n')) : d' = d ∧ n' = n ∧ Stays P o a al ρ w v := by
  cases hop : o.op with
  | move x =>
    simp only [evOp, hop] at hev
    split at hev <;> cases hev
    rename_i hx
    exact ⟨rfl, rfl, stays_move h hE hs (.inl hop) hx⟩
  | assign x =>
    simp only [evOp, hop] at hev
    split at hev <;> cases hev
    rename_i hx
    exact ⟨rfl, rfl, stays_move h hE hs (.inr hop) hx⟩
  | load t x =>
    simp only [evOp, hop] at hev
    split at hev
    · rename_i r i off hr hx
      split at hev
      · rename_i e cs hob
        have hv : ∃ u, (if isAggD r.desc then (if off + r.size ≤ cs.length then some (AV.agg ((cs.drop off).take r.size)) else none)
            else (match cs[off]? with
              | some x => some (.c x)
              | none => none)) = some u ∧ u = v ∧ d' = d ∧ n' = n := by
          split at hev
          · rename_i ha
            split at hev <;> cases hev
            rename_i hle
            exact ⟨_, by rw [if_pos ha, if_pos hle], rfl, rfl, rfl⟩
          · rename_i ha
            split at hev <;> cases hev
            rename_i c hc
            exact ⟨_, by rw [if_neg ha, hc], rfl, rfl, rfl⟩
        obtain ⟨u, hu, rfl, rfl, rfl⟩ := hv
        exact ⟨rfl, rfl, stays_load h hE hs hop hr hx hob hu⟩
      · cases hev
    · rename_i r b off hr hx
      have hv : ∃ u, (if isAggD r.desc then (match memCells E b off r.size with
          | some l => some (AV.agg l)
          | none => none)
        else (match E.mem b off with
          | some x => some (.c (lift x))
          | none => none)) = some u ∧ u = v ∧ d' = d ∧ n' = n := by
        split at hev
        · rename_i ha
          split at hev <;> cases hev
          rename_i l hl
          exact ⟨_, by rw [if_pos ha, hl], rfl, rfl, rfl⟩
        · rename_i ha
          split at hev <;> cases hev
          rename_i c hc
          exact ⟨_, by rw [if_neg ha, hc], rfl, rfl, rfl⟩
      obtain ⟨u, hu, rfl, rfl, rfl⟩ := hv
      exact ⟨rfl, rfl, stays_loadRaw h hE hs hop hr hx hu⟩
    · cases hev
  | nilCheck x =>
    simp only [evOp, hop] at hev
    split at hev
    · cases hev
      rename_i hx
      exact ⟨rfl, rfl, stays_nilCheck h hE hs hop hx⟩
    · cases hev
      rename_i hx
      exact ⟨rfl, rfl, stays_nilCheck_raw h hE hs hop hx⟩
    · cases hev
  | fieldAddr t x f =>
    simp only [evOp, hop] at hev
    split at hev
    · rename_i r i off hr hx
      split at hev
      · rename_i fields hd
        split at hev
        · rename_i fd hf
          split at hev
          · rename_i rf hrf
            split at hev <;> cases hev
            rename_i hz
            exact ⟨rfl, rfl, stays_fieldAddr h hE hs hop hr hx hd hf hrf (by simpa using hz)⟩
          · cases hev
        · cases hev
      · cases hev
    · rename_i r b off hr hx
      split at hev
      · rename_i fields hd
        split at hev
        · rename_i fd hf
          split at hev
          · rename_i rf hrf
            split at hev <;> cases hev
            rename_i hz
            exact ⟨rfl, rfl, stays_fieldAddr_raw h hE hs hop hr hx hd hf hrf (by simpa using hz)⟩
          · cases hev
        · cases hev
      · cases hev
    · cases hev
  | indexAddr t x y =>
    simp only [evOp, hop] at hev
    split at hev
    · rename_i r i len kk k hr hx hy
      split at hev
      · rename_i e hd
        split at hev
        · rename_i re hre
          split at hev <;> cases hev
          rename_i hc
          exact ⟨rfl, rfl, stays_indexAddr h hE hs hop hr hx hy hd hre hc.1 hc.2⟩
        · cases hev
      · cases hev
    · rename_i r b off len cap kk k hr hx hy
      split at hev
      · rename_i e hd
        split at hev
        · rename_i re hre
          split at hev <;> cases hev
          rename_i hc
          exact ⟨rfl, rfl, stays_indexAddr_raw h hE hs hop hr hx hy hd hre hc.1 hc.2⟩
        · cases hev
      · cases hev
    · cases hev
  | _ => rw [hop] at hq; cases hq

omit h hE hs in
theorem evOps_stays (hE : EnvOk P E) (ops : Array Oper) {B : List Seg} {w : World} : ∀ (l : List Oper) (s s' : Slots) (d d' : Seg) (n n' : Nat) (a : Act), (l.all fun o => readsOnly o.op && o.guard.isNone) = true → Rep E B0 ⟨d :: B, al, n, ρ, w⟩ → SlotsOk ρ al s a → evOps E call ops.toList l s B d n = some (s', d', n') →
    d' = d ∧ n' = n ∧ ∀ Q : Act → Prop, (∀ a', SlotsOk ρ al s' a' → a'.defers = a.defers → Q a') → wpStill P ops w Q l a
  | [], s, s', d, d', n, n', a, hl, h, hs, hev => by
    simp only [evOps, Option.some.injEq, Prod.mk.injEq] at hev
    obtain ⟨rfl, rfl, rfl⟩ := hev
    exact ⟨rfl, rfl, fun Q hq => hq a hs rfl⟩
  | o :: l, s, s', d, d', n, n', a, hl, h, hs, hev => by
    simp only [List.all_cons, Bool.and_eq_true] at hl
    obtain ⟨⟨hq, hg⟩, hl⟩ := hl
    have hw : evWanted s ops.toList o = some true := by
      unfold evWanted
      cases hgo : o.guard with
      | none => rfl
      | some x => rw [hgo] at hg; cases hg
    simp only [evOps, hw] at hev
    split at hev
    · rename_i v d1 n1 hop
      obtain ⟨rfl, rfl, hrun, hv⟩ := evOp_stays h hE hs hq hop
      obtain ⟨rfl, rfl, hk⟩ := evOps_stays hE ops l _ s' d1 d' n1 n' _ hl h (hs.put o.dst hv) hev
      refine ⟨rfl, rfl, fun Q hQ => ?_⟩
      unfold wpStill
      rw [evWanted_ok hs hw, if_pos rfl]
      unfold Oper.still
      rw [hrun, Oper.stillUpon_value]
      exact hk Q fun a' hs' hdf => hQ a' hs' (hdf.trans (put_defers _ _ _))
    · cases hev

end

section
variable {P : Program} {E : Env} {B0 : Nat} {call : CallF} {s s' : Slots} {d d' : Seg} {n n' : Nat} {K : List Fr} {Q : AX → Slots → Seg → Nat → Prop}

theorem aw_tail (hE : EnvOk P E) (hcall : CallOk P E B0 call) {id : Nat} {ops : Array Oper} (k : Nat) (hB : Region.lexTailB .any ops k = true) (hl : ((ops.toList.take k).all fun o => readsOnly o.op && o.guard.isNone) = true)
    (h : evOps E call ops.toList (ops.toList.take k) s [] d n = some (s', d', n')) {Q : AX → Slots → Seg → Nat → Prop} (ht : awOps P E B0 call ops.toList (ops.toList.drop k) s' d n (Q .norm)) : AW P E B0 (.region id ops true) s d n Q := by
  intro al ρ w a Q' hr hs hq
  have e : ops = ops.toList.toArray := by simp
  rw [e]
  rw [e] at hB
  refine wp_region_still_tail k hE.mixed hB ?_
  have hr' : Rep E B0 ⟨[d], al, n, ρ, { w with drawn := w.drawn + 1 }⟩ := rep_world hr rfl
  rw [← e]
  obtain ⟨rfl, rfl, hk⟩ := evOps_stays hE ops (ops.toList.take k) s s' d d' n n' a hl hr' hs h
  refine hk _ fun a' hs' hdf => ?_
  refine awOps_ok hE hcall ops (ops.toList.drop k) s' d' n' _ al ρ _ a' hr' hs' ht fun s2 d2 n2 hQ => ?_
  have := hq .norm s2 d2 n2 hQ
  intro δ ρ' al' w' a2 hd hst hs2 hdf2
  exact this δ ρ' al' w' a2 hd ⟨hst.rep, hst.al_eq, hst.n_le, hst.agree, hst.kept, hst.live, hst.ids, hst.size, hst.frame, hst.newb, hst.misc⟩ hs2 (hdf2.trans hdf)

/-- Inside code. -/
theorem code_tail (hE : EnvOk P E) (hcall : CallOk P E B0 call) {id : Nat} {ops : Array Oper} (k : Nat) (hB : Region.lexTailB .any ops k = true) (hl : ((ops.toList.take k).all fun o => readsOnly o.op && o.guard.isNone) = true)
    (h : evOps E call ops.toList (ops.toList.take k) s [] d n = some (s', d', n')) (ht : opsK P E B0 call ops.toList (ops.toList.drop k) s' d n K Q) : codeK P E B0 call (.region id ops true) s d n K Q := ⟨aw_tail hE hcall k hB hl h ht.out⟩

end
end Go.Proofs.YtdpielghjaehbaaGreat.Ev

/- Steps in which blocks have come that nobody looks at. -/
set_option linter.unusedSectionVars false
set_option linter.unusedSimpArgs false
set_option linter.unusedVariables false
namespace Go.Proofs.YtdpielghjaehbaaGreat.Ev
open Go.RowKit

/-- A new object in a new block, wherever it lies; other blocks have come. -/
theorem step_fresh {E : Env} {B0 : Nat} {d : Seg} {B : List Seg} {al : Nat → Prop} {n : Nat} {ρ : Rho} {w w' : World} (h : Rep E B0 ⟨d :: B, al, n, ρ, w⟩)
    (o : AObj) (hl : o.ok al) (blk : Obj) (cap : Nat) (hblk : BlkIs E ρ cap o blk)
    (g : Nat) (hg : w.heap.size ≤ g) (hw : Below w.heap.size w w') (hgb : w'.heap[g]? = some blk) :
    Step E B0 (In [(n, some o)]) ⟨d :: B, al, n, ρ, w⟩
      ⟨([(n, some o)] ++ d) :: B, fun i => al i ∨ i = n, n + 1, fun i => if i = n then (g, cap) else ρ i, w'⟩ := by
  have hin : ∀ i, In [(n, some o)] i ↔ i = n := by
    intro i
    unfold In
    simp only [look, beq_iff_eq]
    constructor
    · rintro ⟨o, ho⟩
      split at ho
      · rename_i hi; exact hi.symm
      · cases ho
    · rintro rfl; exact ⟨_, if_pos rfl⟩
  have hget : ∀ i, get (([(n, some o)] ++ d) :: B) i = if i = n then some o else get (d :: B) i := by
    intro i
    rw [get_append]
    simp only [look, beq_iff_eq]
    by_cases hi : i = n
    · subst hi; simp
    · rw [if_neg (fun x => hi x.symm), if_neg hi]
  have hsz := hw.size
  have hold : ∀ b, b < w.heap.size → w'.heap[b]? = w.heap[b]? := hw.block
  have hag : ∀ i, al i → (fun i => if i = n then (g, cap) else ρ i) i = ρ i := fun i hi => by
    have := h.lt i hi
    simp only at this
    simp only [if_neg (show i ≠ n by omega)]
  have hal' : ∀ i, al i → (fun i => al i ∨ i = n) i := fun i hi => .inl hi
  refine { rep := ?_, al_eq := ?_, n_le := Nat.le_succ n, agree := ?_, kept := ?_, live := ?_, ids := ?_, size := ?_, frame := ?_, newb := ?_, misc := ⟨hw.os, hw.tape, hw.output⟩ }
  · refine { obj := ?_, lo := ?_, inj := ?_, al := ?_, lt := ?_, base := ?_, mem := ?_ }
    · intro i o' ho
      simp only [hget] at ho
      by_cases hi : i = n
      · rw [if_pos hi] at ho
        simp only [Option.some.injEq] at ho
        subst ho; subst hi
        refine ⟨blk, ?_, ?_⟩
        · simp only [if_true]; exact hgb
        · simp only [if_true]; exact BlkIs_agree hag hl hblk
      · rw [if_neg hi] at ho
        obtain ⟨blk', hx, hb'⟩ := h.obj i o' ho
        refine ⟨blk', ?_, ?_⟩
        · simp only [if_neg hi]
          rw [hold _ (h.below ho)]
          exact hx
        · simp only [if_neg hi]; exact BlkIs_agree hag (h.al i o' ho).2 hb'
    · intro i o' ho
      simp only [hget] at ho
      by_cases hi : i = n
      · simp only [if_pos hi]; exact Nat.le_trans h.base hg
      · rw [if_neg hi] at ho
        simp only [if_neg hi]; exact h.lo i o' ho
    · intro i j o' p ho hp he
      simp only [hget] at ho hp
      by_cases hi : i = n <;> by_cases hj : j = n
      · omega
      · rw [if_neg hj] at hp
        simp only [if_pos hi, if_neg hj] at he
        have := h.below hp
        simp only at this; omega
      · rw [if_neg hi] at ho
        simp only [if_pos hj, if_neg hi] at he
        have := h.below ho
        simp only at this; omega
      · rw [if_neg hi] at ho; rw [if_neg hj] at hp
        simp only [if_neg hi, if_neg hj] at he
        exact h.inj i j o' p ho hp he
    · intro i o' ho
      simp only [hget] at ho
      by_cases hi : i = n
      · rw [if_pos hi] at ho
        simp only [Option.some.injEq] at ho
        subst ho
        exact ⟨.inr hi, AObj.ok_mono hal' hl⟩
      · rw [if_neg hi] at ho
        exact ⟨.inl (h.al i o' ho).1, AObj.ok_mono hal' (h.al i o' ho).2⟩
    · rintro i (hi | hi)
      · exact Nat.lt_succ_of_lt (h.lt i hi)
      · simp only; omega
    · exact Nat.le_trans h.base hsz
    · intro b o' v hv
      obtain ⟨m1, m2⟩ := h.mem b o' v hv
      refine ⟨m1, ?_⟩
      have := h.base
      simp only at this m2 ⊢
      rw [cell_of_heap (hold b (by omega))]; exact m2
  · intro i
    simp only
    constructor
    · rintro (hi | hi)
      · exact .inl hi
      · exact .inr (by omega)
    · rintro (hi | hi)
      · exact .inl hi
      · exact .inr (by omega)
  · intro i hi
    simp only at hi ⊢
    rw [if_neg (by omega)]
  · intro i hi
    simp only [hget]
    rw [if_neg (fun x => hi ((hin i).2 x))]
  · intro i hi hn
    have := (hin i).1 hi
    simp only at hn; omega
  · intro i hi
    have := (hin i).1 hi
    simp only; omega
  · omega
  · intro b hb _
    exact hold b hb
  · intro i o' hi ho
    simp only [hget] at ho
    by_cases hin' : i = n
    · left; simp only [if_pos hin']; exact hg
    · rw [if_neg hin'] at ho
      have := h.lt i (h.al i o' ho).1
      simp only at this hi; omega

/-- Nothing but blocks that nobody looks at. -/
theorem step_below {E : Env} {B0 : Nat} {H : List Seg} {al : Nat → Prop} {n : Nat} {ρ : Rho} {w w' : World} (h : Rep E B0 ⟨H, al, n, ρ, w⟩) (hw : Below w.heap.size w w') : Step E B0 (In []) ⟨H, al, n, ρ, w⟩ ⟨H, al, n, ρ, w'⟩ where
  rep :=
    { obj := fun i o ho => by
        obtain ⟨blk, hx, hb⟩ := h.obj i o ho
        exact ⟨blk, (hw.block _ (h.below ho)).trans hx, hb⟩
      lo := h.lo
      inj := h.inj
      al := h.al
      lt := h.lt
      base := Nat.le_trans h.base hw.size
      mem := fun b o v hv => by
        obtain ⟨m1, m2⟩ := h.mem b o v hv
        refine ⟨m1, ?_⟩
        have := h.base
        simp only at this m2 ⊢
        rw [cell_of_heap (hw.block b (by omega))]; exact m2 }
  al_eq i := ⟨.inl, fun x => x.resolve_right (by simp only; omega)⟩
  n_le := Nat.le_refl _
  agree _ _ := rfl
  kept _ _ := rfl
  live i hi := absurd hi (not_in_nil i)
  ids i hi := absurd hi (not_in_nil i)
  size := hw.size
  frame b hb _ := hw.block b hb
  newb i o hi ho := by have := h.lt i (h.al i o ho).1; simp only at this hi; omega
  misc := ⟨hw.os, hw.tape, hw.output⟩

end Go.Proofs.YtdpielghjaehbaaGreat.Ev
