/- A logic of code over abstract heaps, for functions whose results hang on the draws: what is known behind a piece of code, whatever was drawn. -/
import Derived.Test.YtdpielghjaehbaaGreatEvH
import Derived.Maps.RangeRun
set_option linter.unusedSectionVars false
set_option linter.unusedSimpArgs false
set_option linter.unusedVariables false
namespace Go.Proofs.YtdpielghjaehbaaGreat.Ev
open Go.RowKit

section
variable (P : Program) (E : Env) (B0 : Nat)

/-- A call: whatever comes, R. -/
def CallsA (f : Nat) (args : List AV) (d : Seg) (n : Nat) (R : AV → Seg → Nat → Prop) : Prop :=
  ∀ al ρ w, Rep E B0 ⟨[d], al, n, ρ, w⟩ → (∀ x ∈ args, x.ok al) →
    (∃ fn, P.funcs[f]? = some fn ∧ fn.body.isNone = false ∧ (fn.name == "runtime.NumGoroutine") = false) ∧
    Calls P f (args.map (concV ρ)).toArray w fun e w' => ∃ v d' n' δ ρ' al', R v d' n' ∧ d' = δ ++ d ∧ Step E B0 (In δ) ⟨[d], al, n, ρ, w⟩ ⟨[d'], al', n', ρ', w'⟩ ∧ v.ok al' ∧ e = .returned (concV ρ' v)

/-- A piece of code: whatever comes, Q. -/
def AW (c : Code) (s : Slots) (d : Seg) (n : Nat) (Q : AX → Slots → Seg → Nat → Prop) : Prop :=
  ∀ al ρ w a Q', Rep E B0 ⟨[d], al, n, ρ, w⟩ → SlotsOk ρ al s a →
    (∀ x s' d' n', Q x s' d' n' → Post E B0 [] d n al ρ w a x s' d' n' Q') → c.wp P Q' a w

/-- What every heap of the model has: what is named is there. -/
def Live (d : Seg) (n : Nat) : Prop := ∀ i o, get [d] i = some o → i < n ∧ o.ok (· < n)

def stampsOf (ks : List (Int × Nat)) : List Nat := ks.map (·.2)

def awOps (call : CallF) (ops : List Oper) : List Oper → Slots → Seg → Nat → (Slots → Seg → Nat → Prop) → Prop
  | [], s, d, n, Q => Q s d n
  | o :: r, s, d, n, Q => match evWanted s ops o with
    | none => False
    | some false => awOps call ops r (s.put o.dst (.c .undef)) d n Q
    | some true => match evOp E call s o [] d n with
      | some (v, d', n') => awOps call ops r (s.put o.dst v) d' n' Q
      | none => match o.op with
        | .call c => match c.callee with
          | .value (.func f) => match vals s c.args.toList with
            | some vs => CallsA P E B0 f vs d n fun v d' n' => awOps call ops r (s.put o.dst v) d' n' Q
            | none => False
          | .value (.tmp t) => match s.get t, vals s c.args.toList with
            | .c (.clo f i), some vs => CallsA P E B0 f (vs ++ [.c (.ptr i 0)]) d n fun v d' n' => awOps call ops r (s.put o.dst v) d' n' Q
            | _, _ => False
          | _ => False
        | .next it false => match val s it with
          | some (.c (.ptr i 0)) => ∃ m since was stepped ks clock, get [d] i = some (.mit m since was stepped) ∧ get [d] m = some (.pm ks clock) ∧ (∀ p ∈ ks, p.2 < since) ∧ since ≤ stepped ∧
              ((∀ p ∈ ks, p.2 ∈ was) → awOps call ops r (s.put o.dst (.tup [.bool false])) d n Q) ∧
              (∀ p ∈ ks, p.2 ∉ was → awOps call ops r (s.put o.dst (.tup [.bool true, .int .i64 p.1, .raw (.agg ⟨[]⟩)])) ((i, some (.mit m since (was ++ [p.2]) clock)) :: d) n Q)
          | _ => False
        | _ => False

def awp (call : CallF) : Code → Slots → Seg → Nat → (AX → Slots → Seg → Nat → Prop) → Prop
  | .skip, s, d, n, Q => Q .norm s d n
  | .label _, s, d, n, Q => Q .norm s d n
  | .region _ ops false, s, d, n, Q => awOps P E B0 call ops.toList ops.toList s d n (Q .norm)
  | .region id ops true, s, d, n, Q => AW P E B0 (.region id ops true) s d n Q
  | .seq a b, s, d, n, Q => awp call a s d n fun x s' d' n' => match x with
    | .norm => awp call b s' d' n' Q
    | x => Q x s' d' n'
  | .cond c a b, s, d, n, Q => match val s c with
    | some (.c (.bool t)) => (t = true → awp call a s d n Q) ∧ (t = false → awp call b s d n Q)
    | _ => False
  | .block id c, s, d, n, Q => awp call c s d n fun x s' d' n' => match x with
    | .exit j => Q (if j = id then .norm else .exit j) s' d' n'
    | x => Q x s' d' n'
  | .loop c, s, d, n, Q => AW P E B0 (.loop c) s d n Q
  | .exit id, s, d, n, Q => Q (.exit id) s d n
  | .ret, s, d, n, Q => Q .ret s d n
  | _, _, _, _, _ => False

end

section
variable {P : Program} {E : Env} {B0 : Nat} {call : CallF}

theorem rep_live {d : Seg} {al : Nat → Prop} {n : Nat} {ρ : Rho} {w : World} (h : Rep E B0 ⟨[d], al, n, ρ, w⟩) : Live d n :=
  fun i o ho => ⟨h.lt i (h.al i o ho).1, AObj.ok_mono h.lt (h.al i o ho).2⟩

theorem CallsA.mono {f : Nat} {args : List AV} {d : Seg} {n : Nat} {R R' : AV → Seg → Nat → Prop} (h : CallsA P E B0 f args d n R)
    (k : ∀ v d' n', R v d' n' → Live d' n' → n ≤ n' → v.ok (· < n') → R' v d' n') : CallsA P E B0 f args d n R' := by
  intro al ρ w hr ha
  obtain ⟨h1, h2⟩ := h al ρ w hr ha
  refine ⟨h1, h2.mono fun e w' ⟨v, d', n', δ, ρ', al', hR, hd, hst, hok, he⟩ => ⟨v, d', n', δ, ρ', al', k v d' n' hR (rep_live hst.rep) hst.n_le (AV.ok_mono hst.rep.lt hok), hd, hst, hok, he⟩⟩

theorem AW.mono {c : Code} {s : Slots} {d : Seg} {n : Nat} {Q Q' : AX → Slots → Seg → Nat → Prop} (h : AW P E B0 c s d n Q) (k : ∀ x s' d' n', Q x s' d' n' → Live d' n' → n ≤ n' → Q' x s' d' n') : AW P E B0 c s d n Q' := by
  intro al ρ w a Q2 hr hs hq
  refine h al ρ w a Q2 hr hs fun x s' d' n' hQ δ ρ' al' w' a' hd hst hs' hdf => ?_
  exact hq x s' d' n' (k x s' d' n' hQ (rep_live hst.rep) hst.n_le) δ ρ' al' w' a' hd hst hs' hdf

/-- Live for free. -/
theorem AW.live {c : Code} {s : Slots} {d : Seg} {n : Nat} {Q : AX → Slots → Seg → Nat → Prop} (h : Live d n → (∀ t, (s.get t).ok (· < n)) → AW P E B0 c s d n Q) : AW P E B0 c s d n Q :=
  fun al ρ w a Q2 hr hs hq => h (rep_live hr) (fun t => AV.ok_mono hr.lt (hs.ok t)) al ρ w a Q2 hr hs hq

theorem CallsA.live {f : Nat} {args : List AV} {d : Seg} {n : Nat} {R : AV → Seg → Nat → Prop} (h : Live d n → (∀ x ∈ args, x.ok (· < n)) → CallsA P E B0 f args d n R) : CallsA P E B0 f args d n R :=
  fun al ρ w hr ha => h (rep_live hr) (fun x hx => AV.ok_mono hr.lt (ha x hx)) al ρ w hr ha

/-- A step through a map that nobody writes to meanwhile. -/
theorem next_wp {d : Seg} {al : Nat → Prop} {n : Nat} {ρ : Rho} {w : World} {s : Slots} {a : Act} {o : Oper} {it : Operand} {i m since stepped clock : Nat} {was : List Nat} {ks : List (Int × Nat)}
    (h : Rep E B0 ⟨[d], al, n, ρ, w⟩) (hs : SlotsOk ρ al s a) (ho : o.op = .next it false) (hit : val s it = some (.c (.ptr i 0))) (hi : get [d] i = some (.mit m since was stepped)) (hm : get [d] m = some (.pm ks clock))
    (hold : ∀ p ∈ ks, p.2 < since) (hsc : since ≤ stepped) {next : Act → World → Prop} {Q : Exit → Act → World → Prop}
    (k0 : (∀ p ∈ ks, p.2 ∈ was) → next (a.put o.dst (concV ρ (.tup [.bool false]))) w)
    (k1 : ∀ p ∈ ks, p.2 ∉ was → ∀ w', Step E B0 (In [(i, some (.mit m since (was ++ [p.2]) clock))]) ⟨[d], al, n, ρ, w⟩ ⟨[(i, some (.mit m since (was ++ [p.2]) clock)) :: d], al, n, ρ, w'⟩ →
      next (a.put o.dst (concV ρ (.tup [.bool true, .int .i64 p.1, .raw (.agg ⟨[]⟩)]))) w') : o.wp P a w next Q := by
  obtain ⟨ex, kx⟩ := val_conc hs hit
  have ex' : a.eval it = .pointer (some ⟨(ρ i).1, 0, none⟩) := ex
  have hb := h.mit hi
  have hbm := h.pm hm
  simp only at hb hbm
  have hrun := run_next_at (P := P) w o.type (ρ i).1 (ρ m).1 since stepped was.toArray (ks.map pmEntry).toArray clock hb hbm (by
    intro x hx
    obtain ⟨p, hp, rfl⟩ := List.mem_map.1 (by simpa using hx : x ∈ ks.map pmEntry)
    exact hold p hp) hsc
  have hleft : ∀ e, e ∈ (leftOf (ks.map pmEntry).toArray was.toArray).toList ↔ ∃ p ∈ ks, e = pmEntry p ∧ p.2 ∉ was := by
    intro e
    simp only [leftOf, Array.toList_filter, List.mem_filter, List.mem_map]
    constructor
    · rintro ⟨⟨p, hp, rfl⟩, h2⟩
      exact ⟨p, hp, rfl, by simpa [pmEntry] using h2⟩
    · rintro ⟨p, hp, rfl, h2⟩
      exact ⟨⟨p, hp, rfl⟩, by simpa [pmEntry] using h2⟩
  unfold Oper.wp
  rcases hrun with ⟨hz, hrun⟩ | ⟨e, he, w1, hw1, hrun⟩
  · have hx : (execOp a.eval o).run P w = .ok (.value (.tuple #[.bool false])) w := by simp only [execOp, ho, ex', Sem.run_bind, hrun, Result.andThen_ok, Sem.run_pure]
    rw [hx]
    refine k0 fun p hp => ?_
    by_cases hin : p.2 ∈ was
    · exact hin
    · have := (hleft (pmEntry p)).2 ⟨p, hp, rfl, hin⟩
      have hnil : (leftOf (ks.map pmEntry).toArray was.toArray) = #[] := Array.eq_empty_of_size_eq_zero hz
      rw [hnil] at this
      cases this
  · obtain ⟨p, hp, rfl, hnot⟩ := (hleft e).1 he
    have hx : (execOp a.eval o).run P w = .ok (.value (.tuple #[.bool true, (pmEntry p).key, (pmEntry p).val])) (ChangeMaps.setBlock w1 (ρ i).1 (.mapIter (some (ρ m).1) since (was.toArray.push (pmEntry p).born) clock)) := by
      simp only [execOp, ho, ex', Sem.run_bind, hrun, Result.andThen_ok, Sem.run_pure]
    rw [hx]
    have hw1h : w1.heap = w.heap := by rcases hw1 with rfl | rfl <;> rfl
    have hpush : was.toArray.push (pmEntry p).born = (was ++ [p.2]).toArray := by simp [pmEntry]
    rw [hpush]
    have hkm : al m := (h.al i _ hi).2
    refine k1 p hp hnot _ (step_set h hi (.mit m since (was ++ [p.2]) clock) hkm _ rfl ?_)
    have hlt : (ρ i).1 < w.heap.size := (Array.getElem?_eq_some_iff.1 hb).1
    refine ⟨by simp [ChangeMaps.setBlock, hw1h, hlt], fun b hbne => ?_, by simp [ChangeMaps.setBlock, hw1h], ?_⟩
    · simp only [ChangeMaps.setBlock, hw1h]
      rw [Array.getElem?_setIfInBounds_ne (fun e => hbne e.symm)]
    · rcases hw1 with rfl | rfl <;> exact ⟨rfl, rfl, rfl⟩

theorem awOps_ok (hE : EnvOk P E) (hcall : CallOk P E B0 call) (ops : Array Oper) {Q' : Exit → Act → World → Prop} : ∀ (l : List Oper) (s : Slots) (d : Seg) (n : Nat) (Q : Slots → Seg → Nat → Prop) (al : Nat → Prop) (ρ : Rho) (w : World) (a : Act),
    Rep E B0 ⟨[d], al, n, ρ, w⟩ → SlotsOk ρ al s a → awOps P E B0 call ops.toList l s d n Q →
    (∀ s' d' n', Q s' d' n' → Post E B0 [] d n al ρ w a .norm s' d' n' Q') → wpList P ops Q' l a w
  | [], s, d, n, Q, al, ρ, w, a, h, hs, hev, hq => by
    exact hq s d n hev [] ρ al w a rfl (Step.refl h) hs rfl
  | o :: r, s, d, n, Q, al, ρ, w, a, h, hs, hev, hq => by
    unfold wpList
    simp only [awOps] at hev
    -- behind the operation
    have go : ∀ {v : AV} {d' : Seg} {n' : Nat} {ρ' : Rho} {al' : Nat → Prop} {w' : World} (δ : Seg), d' = δ ++ d → Step E B0 (In δ) ⟨[d], al, n, ρ, w⟩ ⟨[d'], al', n', ρ', w'⟩ → v.ok al' →
        awOps P E B0 call ops.toList r (s.put o.dst v) d' n' Q → wpList P ops Q' r (a.put o.dst (concV ρ' v)) w' := fun {v d' n' ρ' al' w'} δ hd hst hv hev' =>
      awOps_ok hE hcall ops r _ d' n' Q al' ρ' w' _ hst.rep ((step_slots h hs hst).put o.dst hv) hev' (fun s2 d2 n2 hQ => (hq s2 d2 n2 hQ).after hd hst (put_defers _ _ _))
    split at hev
    · exact hev.elim
    · rename_i hw
      rw [evWanted_ok hs hw]
      simp only [Bool.false_eq_true, if_false]
      exact go (v := .c .undef) [] rfl (Step.refl h) trivial hev
    · rename_i hw
      rw [evWanted_ok hs hw]
      simp only [if_true]
      left
      split at hev
      · rename_i v d1 n1 hop
        exact evOp_goes h hE hs hcall hop _ _ Q' rfl (fun δ ρ1 al1 w1 hd1 hst1 hv1 => go δ hd1 hst1 hv1 hev)
      · split at hev
        · rename_i c hop
          split at hev
          · rename_i f hf
            split at hev
            · rename_i vs hv
              obtain ⟨e, k⟩ := vals_conc hs hv
              obtain ⟨⟨fn, h1, h2, h3⟩, hc⟩ := hev al ρ w h k
              have he : c.args.map a.eval = (vs.map (concV ρ)).toArray := by
                apply Array.ext'
                simpa using e
              have hrun : (execOp a.eval o).run P w = .ok (.enter f (vs.map (concV ρ)).toArray) w := by
                have h2' : fn.body ≠ none := fun e => by rw [e] at h2; cases h2
                have h3' : ¬ fn.name = "runtime.NumGoroutine" := by simpa using h3
                simp [execOp, hop, resolve, hf, Act.eval, Deferred.ofValue, invoke, callFunc, h1, h2', h3', he]
              unfold Oper.wp
              rw [hrun]
              show Calls P f _ w _
              refine hc.mono fun e w' ⟨v, d', n', δ, ρ', al', hR, hd, hst, hok, he⟩ => ?_
              rw [he]
              exact go δ hd hst hok hR
            · exact hev.elim
          · rename_i t hf
            split at hev
            · rename_i f i vs ht hv
              obtain ⟨e, k⟩ := vals_conc hs hv
              have hok := hs.ok t
              have hat := hs.at_ t
              rw [ht] at hok hat
              obtain ⟨⟨fn, h1, h2, h3⟩, hc⟩ := hev al ρ w h (fun x hx => by
                rcases List.mem_append.1 hx with hx | hx
                · exact k x hx
                · simp only [List.mem_singleton] at hx
                  subst hx; exact hok)
              have he : c.args.map a.eval = (vs.map (concV ρ)).toArray := by
                apply Array.ext'
                simpa using e
              have hat' : a.eval (.tmp t) = .func (.func f) #[] #[.pointer (some ⟨(ρ i).1, 0, none⟩)] := hat
              have hrun : (execOp a.eval o).run P w = .ok (.enter f ((vs ++ [AV.c (.ptr i 0)]).map (concV ρ)).toArray) w := by
                have h2' : fn.body ≠ none := fun e => by rw [e] at h2; cases h2
                have h3' : ¬ fn.name = "runtime.NumGoroutine" := by simpa using h3
                simp [execOp, hop, resolve, hf, hat', Deferred.ofValue, invoke, callFunc, h1, h2', h3', he, concV, conc]
              unfold Oper.wp
              rw [hrun]
              show Calls P f _ w _
              refine hc.mono fun e w' ⟨v, d', n', δ, ρ', al', hR, hd, hst, hok, he⟩ => ?_
              rw [he]
              exact go δ hd hst hok hR
            · exact hev.elim
          · exact hev.elim
        · rename_i it hop
          split at hev
          · rename_i i hit
            obtain ⟨m, since, was, stepped, ks, clock, hi, hm, hold, hsc, k0, k1⟩ := hev
            refine next_wp h hs hop hit hi hm hold hsc (fun hall => ?_) fun p hp hnot w' hst => ?_
            · exact go (v := .tup [.bool false]) [] rfl (Step.refl h) (by simp [AV.ok, AC.ok]) (k0 hall)
            · exact go (v := .tup [.bool true, .int .i64 p.1, .raw (.agg ⟨[]⟩)]) [(i, some (.mit m since (was ++ [p.2]) clock))] rfl hst (by simp [AV.ok, AC.ok]) (k1 p hp hnot)
          · exact hev.elim
        · exact hev.elim

theorem aw_region (hE : EnvOk P E) (hcall : CallOk P E B0 call) {id : Nat} {ops : Array Oper} {s : Slots} {d : Seg} {n : Nat} {Q : AX → Slots → Seg → Nat → Prop} (h : awOps P E B0 call ops.toList ops.toList s d n (Q .norm)) : AW P E B0 (.region id ops false) s d n Q := by
  intro al ρ w a Q' hr hs hq
  exact wp_region_list (awOps_ok hE hcall ops ops.toList s d n _ al ρ w a hr hs h fun s' d' n' hQ => hq .norm s' d' n' hQ)

/-- A region that draws and does nothing but what can be told. -/
theorem aw_draw (hE : EnvOk P E) (hcall : CallOk P E B0 call) {id : Nat} {ops : Array Oper} {s : Slots} {d : Seg} {n : Nat} {Q : AX → Slots → Seg → Nat → Prop} {s' : Slots} {d' : Seg} {n' : Nat} (hst : statOk ops = true)
    (h : evDraw E call ops.toList [] s d n = some (s', d', n')) (hQ : Q .norm s' d' n') : AW P E B0 (.region id ops true) s d n Q := by
  intro al ρ w a Q' hr hs hq
  exact region_ok hE hcall hst hr hs h (hq .norm s' d' n' hQ)

theorem awp_ok (hE : EnvOk P E) (hcall : CallOk P E B0 call) : ∀ (c : Code) (s : Slots) (d : Seg) (n : Nat) (Q : AX → Slots → Seg → Nat → Prop), awp P E B0 call c s d n Q → AW P E B0 c s d n Q := by
  intro c
  induction c with
  | skip => exact fun s d n Q h al ρ w a Q' hr hs hq => wp_skip (hq .norm s d n h [] ρ al w a rfl (Step.refl hr) hs rfl)
  | label l => exact fun s d n Q h al ρ w a Q' hr hs hq => wp_label (hq .norm s d n h [] ρ al w a rfl (Step.refl hr) hs rfl)
  | region id ops draw =>
    cases draw with
    | false => exact fun s d n Q h => aw_region hE hcall h
    | true => exact fun s d n Q h => h
  | seq c1 c2 ih1 ih2 =>
    intro s d n Q h al ρ w a Q' hr hs hq
    refine wp_seq ?_
    refine ih1 s d n _ h al ρ w a _ hr hs fun x s1 d1 n1 hx δ ρ1 al1 w1 a1 hd hst hs1 hdf => ?_
    cases x with
    | norm => exact ih2 s1 d1 n1 Q hx al1 ρ1 w1 a1 Q' hst.rep hs1 fun x s2 d2 n2 hQ => (hq x s2 d2 n2 hQ).after hd hst hdf
    | exit id => exact hq _ s1 d1 n1 hx δ ρ1 al1 w1 a1 hd hst hs1 hdf
    | ret => exact hq _ s1 d1 n1 hx δ ρ1 al1 w1 a1 hd hst hs1 hdf
  | cond cx c1 c2 ih1 ih2 =>
    intro s d n Q h al ρ w a Q' hr hs hq
    simp only [awp] at h
    split at h
    · rename_i t ht
      refine wp_cond (t := t) (val_conc hs ht).1 ?_
      cases t with
      | true => exact ih1 s d n Q (h.1 rfl) al ρ w a Q' hr hs hq
      | false => exact ih2 s d n Q (h.2 rfl) al ρ w a Q' hr hs hq
    · exact h.elim
  | block id c ih =>
    intro s d n Q h al ρ w a Q' hr hs hq
    refine wp_block ?_
    refine ih s d n _ h al ρ w a _ hr hs fun x s1 d1 n1 hx δ ρ1 al1 w1 a1 hd hst hs1 hdf => ?_
    cases x with
    | norm => exact hq _ s1 d1 n1 hx δ ρ1 al1 w1 a1 hd hst hs1 hdf
    | ret => exact hq _ s1 d1 n1 hx δ ρ1 al1 w1 a1 hd hst hs1 hdf
    | exit j =>
      have := hq _ s1 d1 n1 hx δ ρ1 al1 w1 a1 hd hst hs1 hdf
      show if j = id then Q' .normal a1 w1 else Q' (.exit j) a1 w1
      by_cases e : j = id
      · rw [if_pos e] at this ⊢; exact this
      · rw [if_neg e] at this ⊢; exact this
  | loop c ih => exact fun s d n Q h => h
  | exit id => exact fun s d n Q h al ρ w a Q' hr hs hq => wp_exit (hq (.exit id) s d n h [] ρ al w a rfl (Step.refl hr) hs rfl)
  | ret => exact fun s d n Q h al ρ w a Q' hr hs hq => wp_ret (hq .ret s d n h [] ρ al w a rfl (Step.refl hr) hs rfl)
  | _ => exact fun s d n Q h => (by first | exact (h : False).elim | (simp only [awp] at h))

/-- A loop: I holds at its head, and its measure falls. -/
theorem aw_loop {c : Code} {Q : AX → Slots → Seg → Nat → Prop} (I : Nat → Slots → Seg → Nat → Prop)
    (step : ∀ k s d n, I k s d n → Live d n → (∀ t, (s.get t).ok (· < n)) → AW P E B0 c s d n fun x s' d' n' => match x with
      | .norm => ∃ k', k' < k ∧ I k' s' d' n'
      | x => Q x s' d' n') : ∀ (k : Nat) (s : Slots) (d : Seg) (n : Nat), I k s d n → AW P E B0 (.loop c) s d n Q := by
  intro k s d n hI al ρ w a Q' hr hs hq
  refine wp_loop_rounds (k + 1) ?_
  suffices main : ∀ (f k : Nat) (s : Slots) (d : Seg) (n : Nat) (al : Nat → Prop) (ρ : Rho) (w : World) (a : Act), k < f → I k s d n → Rep E B0 ⟨[d], al, n, ρ, w⟩ → SlotsOk ρ al s a →
      (∀ x s' d' n', Q x s' d' n' → Post E B0 [] d n al ρ w a x s' d' n' Q') → Code.rounds P c Q' f a w from main (k + 1) k s d n al ρ w a (by omega) hI hr hs hq
  intro f
  induction f with
  | zero => intro k s d n al ρ w a hk; omega
  | succ f ih =>
    intro k s d n al ρ w a hk hI hr hs hq
    rw [rounds_succ]
    refine step k s d n hI (rep_live hr) (fun t => AV.ok_mono hr.lt (hs.ok t)) al ρ w a _ hr hs fun x s1 d1 n1 hx δ ρ1 al1 w1 a1 hd hst hs1 hdf => ?_
    cases x with
    | norm =>
      obtain ⟨k', hk', hI'⟩ := hx
      exact ih k' s1 d1 n1 al1 ρ1 w1 a1 (by omega) hI' hst.rep hs1 fun x s2 d2 n2 hQ => (hq x s2 d2 n2 hQ).after hd hst hdf
    | exit id => exact hq _ s1 d1 n1 hx δ ρ1 al1 w1 a1 hd hst hs1 hdf
    | ret => exact hq _ s1 d1 n1 hx δ ρ1 al1 w1 a1 hd hst hs1 hdf

/-- A function, by its body. -/
theorem callsA_of (hE : EnvOk P E) {f : Nat} {fn : Func} {c : Code} {args : List AV} {d : Seg} {n : Nat} {R : AV → Seg → Nat → Prop} (hP : P.funcs[f]? = some fn) (hc : fn.body = some c) (hname : (fn.name == "runtime.NumGoroutine") = false) (hle : args.length ≤ fn.ntmps)
    (h : Live d n → (∀ x ∈ args, x.ok (· < n)) → AW P E B0 c ⟨fn.ntmps, argSlots args 0⟩ d n fun x s' d' n' => (x = .norm ∨ x = .ret) ∧ ∃ v, finalOf E s' [d'] fn.results.toList = some v ∧ R v d' n') : CallsA P E B0 f args d n R := by
  intro al ρ w hr hargs
  refine ⟨⟨fn, hP, by rw [hc]; rfl, hname⟩, calls_of_wp hP hc ?_⟩
  have hs : SlotsOk ρ al ⟨fn.ntmps, argSlots args 0⟩ { tmps := (args.map (concV ρ)).toArray ++ Array.replicate (fn.ntmps - (args.map (concV ρ)).toArray.size) Go.undef, defers := [] } := by
    refine ⟨by simp; omega, fun t => ?_, fun t => ?_⟩
    · simp only [Slots.get, sfind_args, Nat.zero_le, if_true, Nat.sub_zero]
      by_cases ht : t < args.length
      · simp [ht, Array.getElem?_append]
      · rw [List.getElem?_eq_none (by omega)]
        simp only [Option.getD_none, concV, conc]
        simp only [Array.getD_eq_getD_getElem?, Array.getElem?_append, List.size_toArray, List.length_map, ht, if_false, Array.getElem?_replicate]
        split <;> rfl
    · simp only [Slots.get, sfind_args, Nat.zero_le, if_true, Nat.sub_zero]
      cases hg : args[t]? with
      | none => trivial
      | some u => exact hargs u (List.mem_of_getElem? hg)
  refine h (rep_live hr) (fun x hx => AV.ok_mono hr.lt (hargs x hx)) al ρ w _ _ hr hs fun x s1 d1 n1 hx δ ρ1 al1 w1 a1 hd hst hs1 hdf => ?_
  obtain ⟨hx, v, hfin, hR⟩ := hx
  obtain ⟨h1, h2⟩ := final_ok hE hst.rep hs1 hfin
  rcases hx with rfl | rfl
  · exact ⟨hdf, _, h1, v, d1, n1, δ, ρ1, al1, hR, hd, hst, h2, rfl⟩
  · exact ⟨hdf, _, h1, v, d1, n1, δ, ρ1, al1, hR, hd, hst, h2, rfl⟩

/-- A call whose outcome is one alone. -/
theorem callsA_det (hcall : CallOk P E B0 call) {f : Nat} {args : List AV} {d d' : Seg} {n n' : Nat} {v : AV} {R : AV → Seg → Nat → Prop} (h : call f args [] d n = some (v, d', n')) (hR : R v d' n') : CallsA P E B0 f args d n R := by
  intro al ρ w hr hargs
  obtain ⟨h1, h2⟩ := hcall f args [] d n v d' n' al ρ w h hr hargs
  exact ⟨h1, h2.mono fun e w' ⟨δ, ρ', al', hd, hst, hok, he⟩ => ⟨v, d', n', δ, ρ', al', hR, hd, hst, hok, he⟩⟩

/-! ### Looking up -/

theorem get_put {s : Slots} {k : Nat} {v : AV} {t : Nat} : (s.put (some k) v).get t = if k = t ∧ k < s.nt then v else s.get t := by
  simp only [Slots.put]
  by_cases hk : k < s.nt
  · rw [if_pos hk]
    simp only [Slots.get, sfind_cons]
    by_cases e : k = t
    · rw [if_pos e, if_pos ⟨e, hk⟩]
    · rw [if_neg e, if_neg (fun x => e x.1)]
  · rw [if_neg hk, if_neg (fun x => hk x.2)]

theorem put_none {s : Slots} {v : AV} : s.put none v = s := rfl

theorem nt_put {s : Slots} {k : Option Nat} {v : AV} : (s.put k v).nt = s.nt := by
  cases k with
  | none => rfl
  | some k => simp only [Slots.put]; split <;> rfl

theorem get_cons {j : Nat} {o : Option AObj} {d : Seg} {i : Nat} : get [(j, o) :: d] i = if j = i then o else get [d] i := by
  simp only [get, look, beq_iff_eq]
  by_cases e : j = i
  · simp [e]
  · simp [e]

theorem val_tmp {s : Slots} {t : Nat} : val s (.tmp t) = some (s.get t) := rfl

end
end Go.Proofs.YtdpielghjaehbaaGreat.Ev
