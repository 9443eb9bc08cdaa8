/- The evaluator is sound: one operation. -/
import Derived.Test.YtdpielghjaehbaaEvB
import Derived.Laws.Strings
import Derived.Laws.BytesString
import Derived.Laws.Small
import Derived.Laws.Cover3
set_option linter.unusedSectionVars false
set_option linter.unusedSimpArgs false
set_option linter.unusedVariables false
namespace Go.Proofs.Ytdpielghjaehbaa.Ev
open Go.RowKit

theorem eq_ptr {ρ : Rho} {v : Value} {i off : Nat} (e : v = concV ρ (.c (.ptr i off))) : v = .pointer (some ⟨(ρ i).1, off, none⟩) := e

section
variable {P : Program} {E : Env} {B0 : Nat} {B : List Seg} {d d' : Seg} {al : Nat → Prop} {n n' : Nat} {ρ : Rho} {w : World} {s : Slots} {a : Act} {o : Oper} {v : AV}

/-- In the world that this heap is, the operation yields v and leaves a world that d' is. -/
def Goes (P : Program) (E : Env) (B0 : Nat) (o : Oper) (a : Act) (B : List Seg) (d : Seg) (al : Nat → Prop) (n : Nat) (ρ : Rho) (w : World) (v : AV) (d' : Seg) (n' : Nat) : Prop :=
  ∀ (a2 : Act) (next : Act → World → Prop) (Q : Exit → Act → World → Prop), execOp a2.eval o = execOp a.eval o →
    (∀ δ ρ' al' w', d' = δ ++ d → Step E B0 (In δ) ⟨d :: B, al, n, ρ, w⟩ ⟨d' :: B, al', n', ρ', w'⟩ → v.ok al' → next (a2.put o.dst (concV ρ' v)) w') → o.wp P a2 w next Q

theorem goes_value {ρ' : Rho} {al' : Nat → Prop} {w' : World} {u : Value} (δ : Seg) (hrun : (execOp a.eval o).run P w = .ok (.value u) w') (hd : d' = δ ++ d)
    (hs : Step E B0 (In δ) ⟨d :: B, al, n, ρ, w⟩ ⟨d' :: B, al', n', ρ', w'⟩) (hv : v.ok al') (hu : u = concV ρ' v) : Goes P E B0 o a B d al n ρ w v d' n' := by
  intro a2 next Q ha hk
  unfold Oper.wp
  rw [ha, hrun, hu]
  exact hk δ ρ' al' w' hd hs hv

theorem goes_skip {ρ' : Rho} {al' : Nat → Prop} {w' : World} (δ : Seg) (hrun : (execOp a.eval o).run P w = .ok .skip w') (hd : d' = δ ++ d)
    (hs : Step E B0 (In δ) ⟨d :: B, al, n, ρ, w⟩ ⟨d' :: B, al', n', ρ', w'⟩) : Goes P E B0 o a B d al n ρ w (.c .undef) d' n' := by
  intro a2 next Q ha hk
  unfold Oper.wp
  rw [ha, hrun]
  exact hk δ ρ' al' w' hd hs trivial

theorem goes_same (h : Rep E B0 ⟨d :: B, al, n, ρ, w⟩) (hrun : (execOp a.eval o).run P w = .ok (.value (concV ρ v)) w) (hv : v.ok al) : Goes P E B0 o a B d al n ρ w v d n :=
  goes_value [] hrun rfl (Step.refl h) hv rfl

theorem blk_row {e : Nat} {r : TyRow} (hr : assoc E.tys e = some r) {l : List AC} {cap : Nat} (hlen : l.length = cap * r.size) : BlkIs E ρ cap (.cells e l) (.cells (concs ρ l).toArray e (0, 0)) :=
  ⟨[], by simp, r, hr, by simpa using hlen⟩

variable (h : Rep E B0 ⟨d :: B, al, n, ρ, w⟩) (hE : EnvOk P E) (hs : SlotsOk ρ al s a)
include h hE hs

theorem goes_move {x : Operand} (ho : o.op = .move x ∨ o.op = .assign x) (hv : val s x = some v) : Goes P E B0 o a B d al n ρ w v d n := by
  obtain ⟨e, k⟩ := val_conc hs hv
  refine goes_same h ?_ k
  rcases ho with ho | ho <;> simp [execOp, ho, e]

theorem goes_pick {c x y : Operand} {t : Bool} {vx vy : AV} (ho : o.op = .pick c x y) (hc : val s c = some (.c (.bool t))) (hx : val s x = some vx) (hy : val s y = some vy) :
    Goes P E B0 o a B d al n ρ w (if t then vx else vy) d n := by
  obtain ⟨ec, _⟩ := val_conc hs hc
  obtain ⟨ex, kx⟩ := val_conc hs hx
  obtain ⟨ey, ky⟩ := val_conc hs hy
  refine goes_same h ?_ (by cases t <;> simpa)
  cases t <;> simp [execOp, ho, ec, concV, conc, asBool, ex, ey]

theorem info_of {t : Nat} {r : TyRow} (hr : assoc E.tys t = some r) : ∃ i z, P.info? t = some i ∧ i.size = r.size ∧ i.bytes = r.bytes ∧ i.zero = some z ∧ ∀ ρ, z.cells = (concs ρ r.zero).toArray := by
  obtain ⟨i, z, h1, h2, h3, h4, h5⟩ := (hE.tys t r hr).info
  exact ⟨i, z, h1, h2, h3, h4, fun ρ => by rw [h5, concs_plain (hE.tys t r hr).plain]⟩

theorem zero_ok {t : Nat} {r : TyRow} (hr : assoc E.tys t = some r) : ∀ x ∈ r.zero, x.ok al := fun x hx => ok_plain (List.all_eq_true.1 (hE.tys t r hr).plain x hx)

theorem goes_alloc {t : Nat} {r : TyRow} (ho : o.op = .alloc t) (hr : assoc E.tys t = some r) (hl : r.zero.length = r.size) :
    Goes P E B0 o a B d al n ρ w (.c (.ptr n 0)) ((n, some (.cells t r.zero)) :: d) (n + 1) := by
  obtain ⟨i, z, h1, h2, h3, h4, h5⟩ := info_of h hE hs hr
  have hst := step_new (w1 := w) h (.cells t r.zero) (zero_ok h hE hs hr) _ 1 (blk_row hr (by omega)) ⟨rfl, rfl, rfl, rfl⟩
  refine goes_value (u := .pointer (some ⟨w.heap.size, 0, none⟩)) _ ?_ rfl hst (.inr rfl) (by simp [concV, conc])
  simp [execOp, ho, Instr.alloc, zeroValue, typeInfo, h1, h4, newVar, newRow, World.alloc_eq, h5 ρ]

theorem goes_box {t : Nat} {r : TyRow} {x : Operand} {u : AV} (ho : o.op = .box t x) (hr : assoc E.tys t = some r) (hx : val s x = some u) (hl : (cellsOf u).length = r.size) (hg : cellsGood (cellsOf u) = true) (h0 : r.size ≠ 0) :
    Goes P E B0 o a B d al n ρ w (.c (.ptr n 0)) ((n, some (.cells t (cellsOf u))) :: d) (n + 1) := by
  obtain ⟨ex, kx⟩ := val_conc hs hx
  have hok : ∀ c ∈ cellsOf u, c.ok al := by
    cases u with
    | c y => intro c hc; simp only [cellsOf, List.mem_singleton] at hc; subst hc; exact kx
    | agg l => exact kx
    | tup l => simp [cellsOf]
  have hst := step_new (w1 := w) h (.cells t (cellsOf u)) hok _ 1 (blk_row hr (by omega)) ⟨rfl, rfl, rfl, rfl⟩
  refine goes_value (u := .pointer (some ⟨w.heap.size, 0, none⟩)) _ ?_ rfl hst (.inr rfl) (by simp [concV, conc])
  have hc := concV_cells (ρ := ρ) hg (.inl (by omega))
  simp [execOp, ho, Instr.box, newVar, newRow, World.alloc_eq, ex, hc]

theorem nilCheck_goes {x : Operand} {i off : Nat} (ho : o.op = .nilCheck x) (hx : val s x = some (.c (.ptr i off))) : Goes P E B0 o a B d al n ρ w (.c (.ptr i off)) d n := by
  obtain ⟨ex, kx⟩ := val_conc hs hx
  refine goes_same h ?_ kx
  simp [execOp, ho, ex, concV, conc]

theorem nilCheck_raw {x : Operand} {p : Addr} (ho : o.op = .nilCheck x) (hx : val s x = some (.c (.raw (.pointer (some p))))) : Goes P E B0 o a B d al n ρ w (.c (.raw (.pointer (some p)))) d n := by
  obtain ⟨ex, kx⟩ := val_conc hs hx
  refine goes_same h ?_ kx
  simp [execOp, ho, ex, concV, conc]

theorem goes_extract_unit {x : Operand} {i : Nat} {l : List AC} (ho : o.op = .extract x i) (hx : val s x = some (.tup l)) (hc : l[i]? = some (.raw (.agg ⟨[]⟩))) : Goes P E B0 o a B d al n ρ w (.agg []) d n := by
  obtain ⟨ex, kx⟩ := val_conc hs hx
  refine goes_same h ?_ (fun c hc => by cases hc)
  have : (concs ρ l)[i]? = some (.agg #[]) := by simp [concs, hc, conc]
  rw [show concV ρ (.agg []) = .agg #[] from rfl]
  simp [execOp, ho, ex, concV, Instr.extract, this]

theorem goes_extract {x : Operand} {i : Nat} {l : List AC} {c : AC} (ho : o.op = .extract x i) (hx : val s x = some (.tup l)) (hc : l[i]? = some c) : Goes P E B0 o a B d al n ρ w (.c c) d n := by
  obtain ⟨ex, kx⟩ := val_conc hs hx
  refine goes_same h ?_ (kx c (List.mem_of_getElem? hc))
  have : (concs ρ l)[i]? = some (conc ρ c) := by simp [concs, hc]
  simp [execOp, ho, ex, concV, Instr.extract, this]

theorem goes_not {x : Operand} {t : Nat} {b : Bool} (ho : o.op = .unOp .not t x) (hx : val s x = some (.c (.bool b))) : Goes P E B0 o a B d al n ρ w (.c (.bool (!b))) d n := by
  obtain ⟨ex, kx⟩ := val_conc hs hx
  refine goes_same h ?_ trivial
  simp [execOp, ho, ex, concV, conc, Op.unary]

theorem isAgg_run {t : Nat} {r : TyRow} (hr : assoc E.tys t = some r) (w : World) : (isAgg t).run P w = .ok (isAggD r.desc) w := by
  have := (hE.tys t r hr).und
  simp only [isAgg, Sem.run_bind, run_underlying this, Result.andThen_ok]
  cases r.desc <;> rfl

theorem loadVar_run {t : Nat} {r : TyRow} (hr : assoc E.tys t = some r) {i off e : Nat} {cs : List AC} (hob : get (d :: B) i = some (.cells e cs)) {v : AV}
    (hv : (if isAggD r.desc then (if off + r.size ≤ cs.length then some (AV.agg ((cs.drop off).take r.size)) else none)
        else (match cs[off]? with
          | some x => some (.c x)
          | none => none)) = some v) : (loadVar t ⟨(ρ i).1, off, none⟩).run P w = .ok (concV ρ v) w ∧ v.ok al := by
  have hok : ∀ c ∈ cs, c.ok al := (h.al i _ hob).2
  obtain ⟨inf, z, h1, h2, h3, h4, h5⟩ := info_of h hE hs hr
  cases ha : isAggD r.desc with
  | true =>
    rw [ha] at hv
    simp only [if_true] at hv
    split at hv
    · rename_i hle
      simp only [Option.some.injEq] at hv
      subst hv
      refine ⟨?_, fun x hx => hok x (List.mem_of_mem_drop (List.mem_of_mem_take hx))⟩
      have hl := run_loadCells_list (P := P) w ⟨(ρ i).1, off, none⟩ (concs ρ ((cs.drop off).take r.size)) (fun j u hj => by
        simp only [concs, List.getElem?_map] at hj
        obtain ⟨c, hc, rfl⟩ := Option.map_eq_some_iff.1 hj
        have hj' : j < r.size := by
          rcases Nat.lt_or_ge j r.size with hl | hl
          · exact hl
          · rw [List.getElem?_take_eq_none hl] at hc; cases hc
        rw [List.getElem?_take_of_lt hj', List.getElem?_drop] at hc
        rw [Addr.add_lit]
        exact h.cell hob hc)
      have hlen : (concs ρ ((cs.drop off).take r.size)).length = r.size := by
        rw [length_concs, List.length_take, List.length_drop]; omega
      rw [hlen] at hl
      simp [loadVar, isAgg_run h hE hs hr, ha, sizeOf, typeInfo, h1, h2, hl, concV]
    · cases hv
  | false =>
    rw [ha] at hv
    simp only [Bool.false_eq_true, if_false] at hv
    split at hv
    · rename_i x hx
      simp only [Option.some.injEq] at hv
      subst hv
      refine ⟨?_, hok x (List.mem_of_getElem? hx)⟩
      have hc := h.cell hob hx
      simp only at hc
      simp [loadVar, isAgg_run h hE hs hr, ha, hc, concV]
    · cases hv

theorem goes_load {t : Nat} {r : TyRow} {x : Operand} {i off e : Nat} {cs : List AC} (ho : o.op = .load t x) (hr : assoc E.tys t = some r) (hx : val s x = some (.c (.ptr i off))) (hob : get (d :: B) i = some (.cells e cs))
    (hv : (if isAggD r.desc then (if off + r.size ≤ cs.length then some (AV.agg ((cs.drop off).take r.size)) else none)
        else (match cs[off]? with
          | some x => some (.c x)
          | none => none)) = some v) : Goes P E B0 o a B d al n ρ w v d n := by
  obtain ⟨ex, kx⟩ := val_conc hs hx
  obtain ⟨hl, hk⟩ := loadVar_run h hE hs hr hob hv
  refine goes_same h ?_ hk
  simp [execOp, ho, eq_ptr ex, Instr.loadAt, Instr.sureAddr, hl]

theorem memCells_spec : ∀ (k b off : Nat) (l : List AC), memCells E b off k = some l → l.length = k ∧ (∀ c ∈ l, c.ok al) ∧ ∀ j u, (concs ρ l)[j]? = some u → w.cell? ⟨b, off + j, none⟩ = some u
  | 0, b, off, l, hl => by
    simp only [memCells, Option.some.injEq] at hl
    subst hl
    exact ⟨rfl, fun _ hc => (by cases hc), fun j u hj => by simp [concs] at hj⟩
  | k + 1, b, off, l, hl => by
    simp only [memCells] at hl
    split at hl
    · rename_i v l' h1 h2
      simp only [Option.some.injEq] at hl
      subst hl
      obtain ⟨g1, g2, g3⟩ := memCells_spec k b (off + 1) l' h2
      refine ⟨by simp [g1], ?_, ?_⟩
      · intro c hc
        cases hc with
        | head => exact ok_lift al v
        | tail _ hc => exact g2 c hc
      · intro j u hj
        cases j with
        | zero =>
          simp only [concs, List.map_cons, List.getElem?_cons_zero, Option.some.injEq] at hj
          subst hj
          rw [conc_lift]
          exact (h.mem b off v h1).2
        | succ j =>
          have := g3 j u (by simpa [concs] using hj)
          rw [← this]
          congr 2
          omega
    · cases hl

theorem goes_loadRaw {t : Nat} {r : TyRow} {x : Operand} {b off : Nat} (ho : o.op = .load t x) (hr : assoc E.tys t = some r) (hx : val s x = some (.c (.raw (.pointer (some ⟨b, off, none⟩)))))
    (hv : (if isAggD r.desc then (match memCells E b off r.size with
        | some l => some (AV.agg l)
        | none => none)
      else (match E.mem b off with
        | some x => some (.c (lift x))
        | none => none)) = some v) : Goes P E B0 o a B d al n ρ w v d n := by
  obtain ⟨ex, kx⟩ := val_conc hs hx
  obtain ⟨inf, z, h1, h2, h3, h4, h5⟩ := info_of h hE hs hr
  cases ha : isAggD r.desc with
  | true =>
    rw [ha] at hv
    simp only [if_true] at hv
    split at hv
    · rename_i l hl
      simp only [Option.some.injEq] at hv
      subst hv
      obtain ⟨g1, g2, g3⟩ := memCells_spec h hE hs r.size b off l hl
      refine goes_same h ?_ g2
      have hrun := run_loadCells_list (P := P) w ⟨b, off, none⟩ (concs ρ l) (fun j u hj => by rw [Addr.add_lit]; exact g3 j u hj)
      rw [length_concs, g1] at hrun
      simp [execOp, ho, ex, concV, conc, Instr.loadAt, Instr.sureAddr, loadVar, isAgg_run h hE hs hr, ha, sizeOf, typeInfo, h1, h2, hrun]
    · cases hv
  | false =>
    rw [ha] at hv
    simp only [Bool.false_eq_true, if_false] at hv
    split at hv
    · rename_i u hu
      simp only [Option.some.injEq] at hv
      subst hv
      refine goes_same h ?_ (ok_lift al u)
      have hc := (h.mem b off u hu).2
      simp only at hc
      have ex' : a.eval x = .pointer (some ⟨b, off, none⟩) := ex
      rw [show concV ρ (.c (lift u)) = u from conc_lift ρ u]
      simp [execOp, ho, ex', Instr.loadAt, Instr.sureAddr, loadVar, isAgg_run h hE hs hr, ha, hc]
    · cases hv

theorem goes_store {t : Nat} {r : TyRow} {x y : Operand} {i off e : Nat} {cs : List AC} {u : AV} (ho : o.op = .store t x y) (hr : assoc E.tys t = some r) (hx : val s x = some (.c (.ptr i off))) (hy : val s y = some u)
    (hob : get (d :: B) i = some (.cells e cs)) (hl : (cellsOf u).length = r.size) (hg : cellsGood (cellsOf u) = true) (hle : off + (cellsOf u).length ≤ cs.length) (h0 : r.size ≠ 0 ∨ isAggV u = true) :
    Goes P E B0 o a B d al n ρ w (.c .undef) ((i, some (.cells e (splice cs off (cellsOf u)))) :: d) n := by
  obtain ⟨ex, kx⟩ := val_conc hs hx
  obtain ⟨ey, ky⟩ := val_conc hs hy
  have hok : ∀ c ∈ cellsOf u, c.ok al := by
    cases u with
    | c y => intro c hc; simp only [cellsOf, List.mem_singleton] at hc; subst hc; exact ky
    | agg l => exact ky
    | tup l => simp [cellsOf]
  have hob' : ∀ c ∈ cs, c.ok al := (h.al i _ hob).2
  have hok' : ∀ c ∈ splice cs off (cellsOf u), c.ok al := by
    intro c hc
    simp only [splice, List.mem_append] at hc
    rcases hc with (hc | hc) | hc
    · exact hob' c (List.mem_of_mem_take hc)
    · exact hok c hc
    · exact hob' c (List.mem_of_mem_drop hc)
  obtain ⟨exs, hx1, r1, hr1, hl1⟩ := h.row hob
  simp only at hx1 hl1
  obtain ⟨inf, z, h1, h2, h3, h4, h5⟩ := info_of h hE hs hr
  have hc := concV_cells (ρ := ρ) hg (h0.imp (fun h => by omega) id)
  have hrun := run_storeCells_at P (ρ i).1 off e (concs ρ (cellsOf u)) 0 _ w hx1 (by simp [length_concs]; omega) (oneCell_concs hg)
  simp only [Nat.add_zero] at hrun
  have e1 : ((concs ρ cs ++ exs).toArray.toList.take off ++ concs ρ (cellsOf u) ++ (concs ρ cs ++ exs).toArray.toList.drop (off + (concs ρ (cellsOf u)).length)) = concs ρ (splice cs off (cellsOf u)) ++ exs := by
    have hlen := length_concs ρ cs
    have hlen2 := length_concs ρ (cellsOf u)
    rw [concs_splice]
    simp only
    rw [List.take_append_of_le_length (by omega), List.drop_append_of_le_length (by omega)]
    simp only [List.append_assoc]
  rw [e1] at hrun
  have hst := step_set h hob (.cells e (splice cs off (cellsOf u))) hok' _ ⟨exs, rfl, r1, hr1, by simp only [splice, List.length_append, List.length_take, List.length_drop]; omega⟩ (puts_setRow (cs := (concs ρ (splice cs off (cellsOf u)) ++ exs).toArray) hx1)
  refine goes_skip _ ?_ rfl hst
  have hsz : (concs ρ (cellsOf u)).length = r.size := by rw [length_concs]; exact hl
  simp [execOp, ho, eq_ptr ex, ey, Instr.storeAt, Instr.sureAddr, storeVar, hc, sizeOf, typeInfo, h1, h2, hsz, hrun]

end
end Go.Proofs.Ytdpielghjaehbaa.Ev

/- The evaluator is sound: one operation, the rest. -/
set_option linter.unusedSectionVars false
set_option linter.unusedSimpArgs false
set_option linter.unusedVariables false
namespace Go.Proofs.Ytdpielghjaehbaa.Ev
open Go.RowKit

section
variable {P : Program} {E : Env} {B0 : Nat} {B : List Seg} {d d' : Seg} {al : Nat → Prop} {n n' : Nat} {ρ : Rho} {w : World} {s : Slots} {a : Act} {o : Oper} {v : AV}
variable (h : Rep E B0 ⟨d :: B, al, n, ρ, w⟩) (hE : EnvOk P E) (hs : SlotsOk ρ al s a)
include h hE hs

theorem eq_int {v : Value} {k : IntKind} {m : Int} (e : v = concV ρ (.c (.int k m))) : v = .int k m := e
theorem eq_str {v : Value} {l : List UInt8} (e : v = concV ρ (.c (.str l))) : v = .string ⟨l.toArray⟩ := e
theorem eq_bool {v : Value} {b : Bool} (e : v = concV ρ (.c (.bool b))) : v = .bool b := e
theorem eq_sl {v : Value} {i len : Nat} (e : v = concV ρ (.c (.sl i len))) : v = .slice (some ⟨(ρ i).1, 0, none⟩) len (ρ i).2 := e
theorem eq_raw {v u : Value} (e : v = concV ρ (.c (.raw u))) : v = u := e
theorem eq_mref {v : Value} {i : Nat} (e : v = concV ρ (.c (.mref i))) : v = .map (some (ρ i).1) := e
theorem eq_sl0 {v : Value} (e : v = concV ρ (.c .sl0)) : v = .slice none 0 0 := e

theorem goes_fieldAddr {t f : Nat} {r rf : TyRow} {x : Operand} {i off : Nat} {fields : Array Field} {fd : Field} (ho : o.op = .fieldAddr t x f) (hr : assoc E.tys t = some r) (hx : val s x = some (.c (.ptr i off)))
    (hd : r.desc = .struct fields) (hf : fields.toList[f]? = some fd) (hrf : assoc E.tys fd.type = some rf) (h0 : rf.size ≠ 0) : Goes P E B0 o a B d al n ρ w (.c (.ptr i (off + fd.offset))) d n := by
  obtain ⟨ex, kx⟩ := val_conc hs hx
  refine goes_same h ?_ kx
  have hu := (hE.tys t r hr).und
  rw [hd] at hu
  obtain ⟨inf, z, h1, h2, h3, h4, h5⟩ := info_of h hE hs hrf
  have hf' : fields[f]? = some fd := by simpa using hf
  simp [execOp, ho, eq_ptr ex, Instr.fieldAt, Instr.sureAddr, run_underlying hu, hf', fieldPlace, sizeOf, typeInfo, h1, h2, h0, concV, conc, Addr.add_lit]

theorem goes_indexAddr {t e : Nat} {r re : TyRow} {x y : Operand} {i len : Nat} {kk : IntKind} {k : Int} (ho : o.op = .indexAddr t x y) (hr : assoc E.tys t = some r) (hx : val s x = some (.c (.sl i len))) (hy : val s y = some (.c (.int kk k)))
    (hd : r.desc = .slice e) (hre : assoc E.tys e = some re) (h0 : 0 ≤ k) (h1 : k < len) : Goes P E B0 o a B d al n ρ w (.c (.ptr i (k.toNat * re.size))) d n := by
  obtain ⟨ex, kx⟩ := val_conc hs hx
  obtain ⟨ey, ky⟩ := val_conc hs hy
  refine goes_same h ?_ kx
  have hu := (hE.tys t r hr).und
  rw [hd] at hu
  obtain ⟨inf, z, g1, g2, g3, g4, g5⟩ := info_of h hE hs hre
  simp [execOp, ho, eq_sl h hE hs ex, eq_int h hE hs ey, Instr.indexAt, asIntOf, run_underlying hu, h0, h1, sizeOf, typeInfo, g1, g2, concV, conc, Addr.add_lit]

theorem goes_fieldAddr_raw {t f : Nat} {r rf : TyRow} {x : Operand} {b off : Nat} {fields : Array Field} {fd : Field} (ho : o.op = .fieldAddr t x f) (hr : assoc E.tys t = some r) (hx : val s x = some (.c (.raw (.pointer (some ⟨b, off, none⟩)))))
    (hd : r.desc = .struct fields) (hf : fields.toList[f]? = some fd) (hrf : assoc E.tys fd.type = some rf) (h0 : rf.size ≠ 0) : Goes P E B0 o a B d al n ρ w (.c (.raw (.pointer (some ⟨b, off + fd.offset, none⟩)))) d n := by
  obtain ⟨ex, kx⟩ := val_conc hs hx
  refine goes_same h ?_ trivial
  have hu := (hE.tys t r hr).und
  rw [hd] at hu
  obtain ⟨inf, z, h1, h2, h3, h4, h5⟩ := info_of h hE hs hrf
  have hf' : fields[f]? = some fd := by simpa using hf
  simp [execOp, ho, eq_raw h hE hs ex, Instr.fieldAt, Instr.sureAddr, run_underlying hu, hf', fieldPlace, sizeOf, typeInfo, h1, h2, h0, concV, conc, Addr.add_lit]

theorem goes_indexAddr_raw {t e : Nat} {r re : TyRow} {x y : Operand} {b off len cap : Nat} {kk : IntKind} {k : Int} (ho : o.op = .indexAddr t x y) (hr : assoc E.tys t = some r) (hx : val s x = some (.c (.raw (.slice (some ⟨b, off, none⟩) len cap)))) (hy : val s y = some (.c (.int kk k)))
    (hd : r.desc = .slice e) (hre : assoc E.tys e = some re) (h0 : 0 ≤ k) (h1 : k < len) : Goes P E B0 o a B d al n ρ w (.c (.raw (.pointer (some ⟨b, off + k.toNat * re.size, none⟩)))) d n := by
  obtain ⟨ex, kx⟩ := val_conc hs hx
  obtain ⟨ey, ky⟩ := val_conc hs hy
  refine goes_same h ?_ trivial
  have hu := (hE.tys t r hr).und
  rw [hd] at hu
  obtain ⟨inf, z, g1, g2, g3, g4, g5⟩ := info_of h hE hs hre
  simp [execOp, ho, eq_raw h hE hs ex, eq_int h hE hs ey, Instr.indexAt, asIntOf, run_underlying hu, h0, h1, sizeOf, typeInfo, g1, g2, concV, conc, Addr.add_lit]

theorem goes_index {t : Nat} {r : TyRow} {x y : Operand} {l : List UInt8} {kk : IntKind} {k : Int} {b : UInt8} (ho : o.op = .index t x y) (hr : assoc E.tys t = some r) (hx : val s x = some (.c (.str l))) (hy : val s y = some (.c (.int kk k)))
    (hd : r.desc = .string) (h0 : 0 ≤ k) (hb : l[k.toNat]? = some b) : Goes P E B0 o a B d al n ρ w (.c (.int .u8 b.toNat)) d n := by
  obtain ⟨ex, kx⟩ := val_conc hs hx
  obtain ⟨ey, ky⟩ := val_conc hs hy
  refine goes_same h ?_ trivial
  have hu := (hE.tys t r hr).und
  rw [hd] at hu
  have hb' : (⟨l.toArray⟩ : ByteArray)[k.toNat]? = some b := by
    obtain ⟨hk, rfl⟩ := List.getElem?_eq_some_iff.1 hb
    have hk' : k.toNat < (⟨l.toArray⟩ : ByteArray).size := by simpa [ByteArray.size] using hk
    rw [getElem?_pos (⟨l.toArray⟩ : ByteArray) k.toNat hk']
    rfl
  simp [execOp, ho, eq_str h hE hs ex, eq_int h hE hs ey, Instr.index, asIntOf, run_underlying hu, h0, hb', concV, conc]

theorem goes_slice {t : Nat} {r : TyRow} {x lo hi : Operand} {l : List UInt8} {k1 k2 : IntKind} {p q : Int} (ho : o.op = .slice t x (some lo) (some hi) none) (hr : assoc E.tys t = some r) (hx : val s x = some (.c (.str l)))
    (hlo : val s lo = some (.c (.int k1 p))) (hhi : val s hi = some (.c (.int k2 q))) (hd : r.desc = .string) (h0 : 0 ≤ p) (h1 : p ≤ q) (h2 : q ≤ l.length) :
    Goes P E B0 o a B d al n ρ w (.c (.str ((l.take q.toNat).drop p.toNat))) d n := by
  obtain ⟨ex, kx⟩ := val_conc hs hx
  obtain ⟨e1, _⟩ := val_conc hs hlo
  obtain ⟨e2, _⟩ := val_conc hs hhi
  refine goes_same h ?_ trivial
  have hu := (hE.tys t r hr).und
  rw [hd] at hu
  have hq : 0 ≤ q := by omega
  have hpq : p ≤ (q.toNat : Int) := by omega
  have hsz : q ≤ ((⟨l.toArray⟩ : ByteArray).size : Int) := by simpa [ByteArray.size] using h2
  have hmx : max q 0 = q := by omega
  have hnl : ¬ q < p := by omega
  have he : (⟨l.toArray⟩ : ByteArray).extract p.toNat q.toNat = ⟨((l.take q.toNat).drop p.toNat).toArray⟩ := by
    rw [ByteArray.ext_iff, ByteArray.data_extract]
    apply Array.ext'
    simp [List.extract, List.drop_take]
  simp [execOp, ho, eq_str h hE hs ex, eq_int h hE hs e1, eq_int h hE hs e2, Instr.sliceAt, Instr.slice, Instr.sliceBounds, Instr.sliceBound, asIntOf, run_underlying hu, h0, hq, hpq, hsz, hmx, hnl, h1, concV, conc, he]

theorem goes_slice_lo {t : Nat} {r : TyRow} {x lo : Operand} {l : List UInt8} {k1 : IntKind} {p : Int} (ho : o.op = .slice t x (some lo) none none) (hr : assoc E.tys t = some r) (hx : val s x = some (.c (.str l)))
    (hlo : val s lo = some (.c (.int k1 p))) (hd : r.desc = .string) (h0 : 0 ≤ p) (h1 : p ≤ l.length) : Goes P E B0 o a B d al n ρ w (.c (.str (l.drop p.toNat))) d n := by
  obtain ⟨ex, kx⟩ := val_conc hs hx
  obtain ⟨e1, _⟩ := val_conc hs hlo
  refine goes_same h ?_ trivial
  have hu := (hE.tys t r hr).und
  rw [hd] at hu
  have hsz : p ≤ ((⟨l.toArray⟩ : ByteArray).size : Int) := by simpa [ByteArray.size] using h1
  have he : (⟨l.toArray⟩ : ByteArray).extract p.toNat (⟨l.toArray⟩ : ByteArray).size = ⟨(l.drop p.toNat).toArray⟩ := by
    rw [ByteArray.ext_iff, ByteArray.data_extract]
    apply Array.ext'
    have : (⟨l.toArray⟩ : ByteArray).size = l.length := List.size_toArray
    simp [List.extract, this]
    exact List.take_of_length_le (by simp)
  simp [execOp, ho, eq_str h hE hs ex, eq_int h hE hs e1, Instr.sliceAt, Instr.slice, Instr.sliceBounds, Instr.sliceBound, asIntOf, run_underlying hu, h0, hsz, concV, conc, he]

theorem goes_slice_hi {t : Nat} {r : TyRow} {x hi : Operand} {l : List UInt8} {k1 : IntKind} {p : Int} (ho : o.op = .slice t x none (some hi) none) (hr : assoc E.tys t = some r) (hx : val s x = some (.c (.str l)))
    (hlo : val s hi = some (.c (.int k1 p))) (hd : r.desc = .string) (h0 : 0 ≤ p) (h1 : p ≤ l.length) : Goes P E B0 o a B d al n ρ w (.c (.str (l.take p.toNat))) d n := by
  obtain ⟨ex, kx⟩ := val_conc hs hx
  obtain ⟨e1, _⟩ := val_conc hs hlo
  refine goes_same h ?_ trivial
  have hu := (hE.tys t r hr).und
  rw [hd] at hu
  have hsz : p ≤ ((⟨l.toArray⟩ : ByteArray).size : Int) := by simpa [ByteArray.size] using h1
  have he : (⟨l.toArray⟩ : ByteArray).extract 0 p.toNat = ⟨(l.take p.toNat).toArray⟩ := by
    rw [ByteArray.ext_iff, ByteArray.data_extract]
    apply Array.ext'
    simp [List.extract]
  simp [execOp, ho, eq_str h hE hs ex, eq_int h hE hs e1, Instr.sliceAt, Instr.slice, Instr.sliceBounds, Instr.sliceBound, asIntOf, run_underlying hu, h0, hsz, concV, conc, he]

theorem goes_slice_row {t e : Nat} {r re : TyRow} {x hi : Operand} {i len ei : Nat} {ci : List AC} {k1 : IntKind} {p : Int} (ho : o.op = .slice t x none (some hi) none) (hr : assoc E.tys t = some r) (hx : val s x = some (.c (.sl i len)))
    (hlo : val s hi = some (.c (.int k1 p))) (hd : r.desc = .slice e) (hre : assoc E.tys e = some re) (hob : get (d :: B) i = some (.cells ei ci)) (h0 : 0 ≤ p) (h1 : p ≤ len) (hei : ei = e) (hz : re.size ≠ 0) (hle : len * re.size ≤ ci.length) :
    Goes P E B0 o a B d al n ρ w (.c (.sl i p.toNat)) d n := by
  obtain ⟨ex, kx⟩ := val_conc hs hx
  obtain ⟨e1, _⟩ := val_conc hs hlo
  refine goes_same h ?_ kx
  have hu := (hE.tys t r hr).und
  rw [hd] at hu
  subst hei
  obtain ⟨exs, hx1, r1, hr1, hl1⟩ := h.row hob
  rw [hre] at hr1
  simp only [Option.some.injEq] at hr1; subst hr1
  simp only at hl1
  have hcap : len ≤ (ρ i).2 := by
    have : len * re.size ≤ (ρ i).2 * re.size := by omega
    exact Nat.le_of_mul_le_mul_right this (by omega)
  have hpc : p ≤ ((ρ i).2 : Int) := by omega
  obtain ⟨inf, z, g1, g2, g3, g4, g5⟩ := info_of h hE hs hre
  simp [execOp, ho, eq_sl h hE hs ex, eq_int h hE hs e1, Instr.sliceAt, Instr.slice, Instr.sliceBounds, Instr.sliceBound, asIntOf, run_underlying hu, h0, hpc, sizeOf, typeInfo, g1, concV, conc, Addr.add_lit]

theorem goes_slice_raw {t e : Nat} {r re : TyRow} {x hi : Operand} {b off len cap : Nat} {k1 : IntKind} {p : Int} (ho : o.op = .slice t x none (some hi) none) (hr : assoc E.tys t = some r) (hx : val s x = some (.c (.raw (.slice (some ⟨b, off, none⟩) len cap))))
    (hlo : val s hi = some (.c (.int k1 p))) (hd : r.desc = .slice e) (hre : assoc E.tys e = some re) (h0 : 0 ≤ p) (h1 : p ≤ cap) :
    Goes P E B0 o a B d al n ρ w (.c (.raw (.slice (some ⟨b, off, none⟩) p.toNat cap))) d n := by
  obtain ⟨ex, kx⟩ := val_conc hs hx
  obtain ⟨e1, _⟩ := val_conc hs hlo
  refine goes_same h ?_ kx
  have hu := (hE.tys t r hr).und
  rw [hd] at hu
  obtain ⟨inf, z, g1, g2, g3, g4, g5⟩ := info_of h hE hs hre
  simp [execOp, ho, eq_raw h hE hs ex, eq_int h hE hs e1, Instr.sliceAt, Instr.slice, Instr.sliceBounds, Instr.sliceBound, asIntOf, run_underlying hu, h0, h1, sizeOf, typeInfo, g1, concV, conc, Addr.add_lit]

theorem sameBytes_eq : ∀ (x y : List UInt8), sameBytes x y = (x == y)
  | [], [] => rfl
  | [], _ :: _ => rfl
  | _ :: _, [] => rfl
  | c :: x, e :: y => by
    rw [sameBytes, sameBytes_eq x y]
    have : (c.toNat == e.toNat) = (c == e) := by rw [Bool.eq_iff_iff]; simp [UInt8.toNat_inj]
    rw [this]; rfl

theorem cmp_run {op : BinOp} {x y : Int} {c : AC} (hc : cmpInt op x y = some c) (w : World) : (Op.intCmp op x y).run P w = .ok (conc ρ c) w ∧ c.ok al := by
  unfold cmpInt at hc
  split at hc <;> first
    | (simp only [Option.some.injEq] at hc; subst hc; exact ⟨by simp [Op.intCmp, conc], trivial⟩)
    | cases hc

theorem goes_binOp {op : BinOp} {t t' : Nat} {x y : Operand} {u1 u2 : AV} {c : AC} (ho : o.op = .binOp op t x y t') (hx : val s x = some u1) (hy : val s y = some u2) (hc : evBin E op t u1 u2 = some c) :
    Goes P E B0 o a B d al n ρ w (.c c) d n := by
  obtain ⟨ex, kx⟩ := val_conc hs hx
  obtain ⟨ey, ky⟩ := val_conc hs hy
  unfold evBin at hc
  split at hc
  · rename_i k p k' q
    split at hc
    · rename_i hk
      have hkk : k = k' := by
        simp only [Bool.and_eq_true, beq_iff_eq] at hk
        revert hk
        cases k <;> cases k' <;> simp [IntKind.bits, IntKind.signed]
      subst hkk
      have e1 := eq_int h hE hs ex
      have e2 := eq_int h hE hs ey
      have hg : (eqGuard op t x y (.int k p) (.int k q)).run P w = .ok () w := by
        unfold eqGuard; cases op <;> simp
      split at hc
      all_goals first
        | (simp only [Option.some.injEq] at hc; subst hc
           exact goes_same h (by simp [execOp, ho, e1, e2, hg, Go.binOp, Op.intArith, Op.intBits, concV, conc]) trivial)
        | (split at hc
           · cases hc
           · rename_i hq
             simp only [Option.some.injEq] at hc; subst hc
             have hq' : q ≠ 0 := by simpa using hq
             exact goes_same h (by simp [execOp, ho, e1, e2, hg, Go.binOp, Op.intDiv, hq', concV, conc]) trivial)
        | (obtain ⟨hr, hk⟩ := cmp_run h hE hs hc w
           refine goes_same h ?_ hk
           have hr' : (Go.binOp op t (.int k p) (.int k q)).run P w = .ok (conc ρ c) w := by
             cases op <;> first
               | (simp [cmpInt] at hc; done)
               | (simpa [Go.binOp] using hr)
           simp [execOp, ho, e1, e2, hg, hr', concV])
    · cases hc
  · rename_i l1 l2
    have e1 := eq_str h hE hs ex
    have e2 := eq_str h hE hs ey
    have hg : (eqGuard op t x y (.string ⟨l1.toArray⟩) (.string ⟨l2.toArray⟩)).run P w = .ok () w := by
      unfold eqGuard; cases op <;> simp
    split at hc
    · split at hc
      · rename_i hlt
        simp only [Option.some.injEq] at hc; subst hc
        have hsz : ¬ ((((⟨l1.toArray⟩ : ByteArray).size + (⟨l2.toArray⟩ : ByteArray).size : Nat) : Int) > IntKind.i64.max) := by
          simp only [ByteArray.size, List.size_toArray]
          have : IntKind.i64.max = 9223372036854775807 := by decide
          omega
        have he : (⟨l1.toArray⟩ : ByteArray) ++ ⟨l2.toArray⟩ = ⟨(l1 ++ l2).toArray⟩ := by
          rw [ByteArray.ext_iff, ByteArray.data_append]
          simp
        refine goes_same h ?_ trivial
        have hop : (Op.stringOp .add (⟨l1.toArray⟩ : ByteArray) ⟨l2.toArray⟩).run P w = .ok (.string ⟨(l1 ++ l2).toArray⟩) w := by
          simp only [Op.stringOp]
          rw [if_neg hsz, he]; rfl
        simp [execOp, ho, e1, e2, hg, Go.binOp, hop, concV, conc]
      · cases hc
    · simp only [Option.some.injEq] at hc; subst hc
      refine goes_same h ?_ trivial
      simp [execOp, ho, e1, e2, hg, Go.binOp, Op.stringOp, ByteArray.toList_eq, sameBytes_eq h hE hs, concV, conc]
    · simp only [Option.some.injEq] at hc; subst hc
      refine goes_same h ?_ trivial
      simp [execOp, ho, e1, e2, hg, Go.binOp, Op.stringOp, ByteArray.toList_eq, sameBytes_eq h hE hs, concV, conc]
    · cases hc
  · rename_i b1 b2
    have e1 := eq_bool h hE hs ex
    have e2 := eq_bool h hE hs ey
    have hg : (eqGuard op t x y (.bool b1) (.bool b2)).run P w = .ok () w := by
      unfold eqGuard; cases op <;> simp
    split at hc
    · rename_i r1 sz by1 z1 za hr
      have hu := (hE.tys t _ hr).und
      simp only at hu
      have heq : (Op.equal t (.bool b1) (.bool b2)).run P w = .ok (b1 == b2) w := by
        exact run_equal_bool w t b1 b2 hu
      split at hc <;> first
        | (simp only [Option.some.injEq] at hc; subst hc
           exact goes_same h (by simp [execOp, ho, e1, e2, hg, Go.binOp, heq, concV, conc]) trivial)
        | cases hc
    · cases hc
  · rename_i i
    have e1 := eq_mref h hE hs ex
    have e2 : a.eval y = .map none := ey
    split at hc
    · rename_i r1 sz by1 k1 k2 z1 za hr
      have hu := (hE.tys t _ hr).und
      simp only at hu
      split at hc <;> first
        | (simp only [Option.some.injEq] at hc; subst hc
           have heq : (Op.equal t (.map (some (ρ i).1)) (.map none)).run P w = .ok false w := run_equal_map_nil w t _ _ _ hu
           have hg : (eqGuard .eql t x y (.map (some (ρ i).1)) (.map none)).run P w = .ok () w := by unfold eqGuard; simp
           exact goes_same h (by simp [execOp, ho, e1, e2, hg, Go.binOp, heq, concV, conc]) trivial)
        | cases hc
    · cases hc
  · cases hc

theorem bytesToString_run {i len eo : Nat} {cs : List AC} (hob : get (d :: B) i = some (.cells eo cs)) (hl : len ≤ cs.length) {l : List UInt8} (hb : bytesOfCells (cs.take len) = some l) :
    (Conv.bytesToString (.slice (some ⟨(ρ i).1, 0, none⟩) len (ρ i).2)).run P w = .ok (.string ⟨l.toArray⟩) w := by
  have hload := run_loadCells_list (P := P) w ⟨(ρ i).1, 0, none⟩ (concs ρ (cs.take len)) (fun j u hj => by
    simp only [concs, List.getElem?_map] at hj
    obtain ⟨c, hc, rfl⟩ := Option.map_eq_some_iff.1 hj
    have hj' : j < len := by
      rcases Nat.lt_or_ge j len with hl | hl
      · exact hl
      · rw [List.getElem?_take_eq_none hl] at hc; cases hc
    rw [List.getElem?_take_of_lt hj'] at hc
    rw [Addr.add_lit, Nat.zero_add]
    exact h.cell hob hc)
  have hlen : (concs ρ (cs.take len)).length = len := by rw [length_concs, List.length_take]; omega
  rw [hlen] at hload
  have hns : ∀ (cs : List AC) (l : List UInt8), bytesOfCells cs = some l → ∃ ns : List Int, concs ρ cs = ns.map (Value.int .u8) ∧ ∀ acc : List UInt8, ns.foldl (fun r n => r.push (UInt8.ofNat n.toNat)) (⟨acc.toArray⟩ : ByteArray) = ⟨(acc ++ l).toArray⟩ := by
    intro cs
    induction cs with
    | nil => intro l hb; simp only [bytesOfCells, Option.some.injEq] at hb; subst hb; exact ⟨[], rfl, fun acc => by simp⟩
    | cons c cs ih =>
      intro l hb
      unfold bytesOfCells at hb
      split at hb
      · rename_i hnil; cases hnil
      · rename_i m r hcons
        simp only [List.cons.injEq] at hcons
        obtain ⟨rfl, rfl⟩ := hcons
        split at hb
        · rename_i l' hl'
          simp only [Option.some.injEq] at hb; subst hb
          obtain ⟨ns, e1, e2⟩ := ih l' hl'
          refine ⟨m :: ns, by simp only [concs, List.map_cons, conc] at e1 ⊢; rw [e1], fun acc => ?_⟩
          have he : (⟨acc.toArray⟩ : ByteArray).push (UInt8.ofNat m.toNat) = ⟨(acc ++ [UInt8.ofNat m.toNat]).toArray⟩ := by
            rw [ByteArray.ext_iff]; simp
          simp only [List.foldl_cons]
          rw [he, e2]
          simp
        · cases hb
      · cases hb
  obtain ⟨ns, e1, e2⟩ := hns _ l hb
  rw [e1] at hload
  rw [run_bytesToString w _ _ _ ns hload]
  have := e2 []
  simp only [List.nil_append] at this
  have he : (ByteArray.empty : ByteArray) = ⟨([] : List UInt8).toArray⟩ := rfl
  rw [he, this]

theorem goes_convert {t1 t2 : Nat} {x : Operand} {u : AV} {c : AC} (ho : o.op = .convert t1 t2 x) (hx : val s x = some u) (hc : evConv E (d :: B) t1 t2 u = some c) : Goes P E B0 o a B d al n ρ w (.c c) d n := by
  obtain ⟨ex, kx⟩ := val_conc hs hx
  unfold evConv at hc
  split at hc
  · rename_i rs rd hrs hrd
    have hu1 := (hE.tys t1 rs hrs).und
    have hu2 := (hE.tys t2 rd hrd).und
    split at hc
    · rename_i k k' m hd
      rw [hd] at hu2
      simp only [Option.some.injEq] at hc; subst hc
      refine goes_same h ?_ trivial
      simp [execOp, ho, eq_int h hE hs ex, Go.convert, run_underlying hu1, run_underlying hu2, Conv.intToInt, concV, conc]
    · rename_i i len hd
      rw [hd] at hu2
      split at hc
      · rename_i e he
        rw [he] at hu1
        split at hc
        · rename_i r1 sz by1 z1 za hr
          have hu3 := (hE.tys e _ hr).und
          simp only at hu3
          split at hc
          · rename_i eo cs hob
            split at hc
            · rename_i hle
              split at hc
              · rename_i l hb
                simp only [Option.some.injEq] at hc; subst hc
                refine goes_same h ?_ trivial
                have hb' := bytesToString_run h hE hs (P := P) hob hle hb
                simp [execOp, ho, eq_sl h hE hs ex, Go.convert, run_underlying hu1, run_underlying hu2, run_underlying hu3, hb', concV, conc]
              · cases hc
            · cases hc
          · cases hc
        · cases hc
      · cases hc
    · rename_i hd
      rw [hd] at hu2
      split at hc
      · rename_i e he
        rw [he] at hu1
        split at hc
        · rename_i r1 sz by1 z1 za hr
          have hu3 := (hE.tys e _ hr).und
          simp only at hu3
          simp only [Option.some.injEq] at hc; subst hc
          refine goes_same h ?_ trivial
          have e0 : a.eval x = .slice none 0 0 := ex
          have he0 : (ByteArray.empty : ByteArray) = ⟨([] : List UInt8).toArray⟩ := rfl
          simp [execOp, ho, e0, Go.convert, run_underlying hu1, run_underlying hu2, run_underlying hu3, Conv.bytesToString, concV, conc, he0]
        · cases hc
      · cases hc
    · rename_i k m hd
      rw [hd] at hu2
      simp only [Option.some.injEq] at hc; subst hc
      refine goes_same h ?_ trivial
      simp [execOp, ho, eq_int h hE hs ex, Go.convert, run_underlying hu1, run_underlying hu2, Conv.intToString, concV, conc]
    · cases hc
  · cases hc

end
end Go.Proofs.Ytdpielghjaehbaa.Ev
