/- The evaluator is sound: an operation as a whole; operations in a row. -/
import Derived.Test.YtdpielghjaehbaaGreatEvF
set_option linter.unusedSectionVars false
set_option linter.unusedSimpArgs false
set_option linter.unusedVariables false
namespace Go.Proofs.YtdpielghjaehbaaGreat.Ev
open Go.RowKit

/-- What a way of calling must do. -/
def CallOk (P : Program) (E : Env) (B0 : Nat) (call : CallF) : Prop :=
  ∀ f args B d n v d' n' al ρ w, call f args B d n = some (v, d', n') → Rep E B0 ⟨d :: B, al, n, ρ, w⟩ → (∀ x ∈ args, x.ok al) →
    (∃ fn, P.funcs[f]? = some fn ∧ fn.body.isNone = false ∧ (fn.name == "runtime.NumGoroutine") = false) ∧
    Calls P f (args.map (concV ρ)).toArray w fun e w' => ∃ δ ρ' al', d' = δ ++ d ∧ Step E B0 (In δ) ⟨d :: B, al, n, ρ, w⟩ ⟨d' :: B, al', n', ρ', w'⟩ ∧ v.ok al' ∧ e = .returned (concV ρ' v)

section
variable {P : Program} {E : Env} {B0 : Nat} {B : List Seg} {d d' : Seg} {al : Nat → Prop} {n n' : Nat} {ρ : Rho} {w : World} {s : Slots} {a : Act} {o : Oper} {v : AV} {call : CallF}

theorem goes_call (h : Rep E B0 ⟨d :: B, al, n, ρ, w⟩) (hs : SlotsOk ρ al s a) (hcall : CallOk P E B0 call) {c : Call} {f : Nat} {vs : List AV} (ho : o.op = .call c) (hf : c.callee = .value (.func f)) (hv : vals s c.args.toList = some vs)
    (hev : call f vs B d n = some (v, d', n')) : Goes P E B0 o a B d al n ρ w v d' n' := by
  obtain ⟨e, k⟩ := vals_conc hs hv
  obtain ⟨⟨fn, h1, h2, h3⟩, hc⟩ := hcall f vs B d n v d' n' al ρ w hev h k
  intro a2 next Q ha hk
  unfold Oper.wp
  have he : c.args.map a.eval = (vs.map (concV ρ)).toArray := by
    apply Array.ext'
    simpa using e
  have hrun : (execOp a.eval o).run P w = .ok (.enter f (vs.map (concV ρ)).toArray) w := by
    have h2' : fn.body ≠ none := fun e => by rw [e] at h2; cases h2
    have h3' : ¬ fn.name = "runtime.NumGoroutine" := by simpa using h3
    simp [execOp, ho, resolve, hf, Act.eval, Deferred.ofValue, invoke, callFunc, h1, h2', h3', he]
  rw [ha, hrun]
  show Calls P f _ w _
  refine hc.mono fun e w' ⟨δ, ρ', al', hd, hst, hok, he⟩ => ?_
  rw [he]
  exact hk δ ρ' al' w' hd hst hok

theorem goes_call_clo (h : Rep E B0 ⟨d :: B, al, n, ρ, w⟩) (hs : SlotsOk ρ al s a) (hcall : CallOk P E B0 call) {c : Call} {t f i : Nat} {vs : List AV} (ho : o.op = .call c) (hf : c.callee = .value (.tmp t)) (ht : s.get t = .c (.clo f i)) (hv : vals s c.args.toList = some vs)
    (hev : call f (vs ++ [.c (.ptr i 0)]) B d n = some (v, d', n')) : Goes P E B0 o a B d al n ρ w v d' n' := by
  obtain ⟨e, k⟩ := vals_conc hs hv
  have hok := hs.ok t
  have hat := hs.at_ t
  rw [ht] at hok hat
  obtain ⟨⟨fn, h1, h2, h3⟩, hc⟩ := hcall f (vs ++ [.c (.ptr i 0)]) B d n v d' n' al ρ w hev h (fun x hx => by
    rcases List.mem_append.1 hx with hx | hx
    · exact k x hx
    · simp only [List.mem_singleton] at hx
      subst hx; exact hok)
  intro a2 next Q ha hk
  unfold Oper.wp
  have he : c.args.map a.eval = (vs.map (concV ρ)).toArray := by
    apply Array.ext'
    simpa using e
  have hat' : a.eval (.tmp t) = .func (.func f) #[] #[.pointer (some ⟨(ρ i).1, 0, none⟩)] := hat
  have hrun : (execOp a.eval o).run P w = .ok (.enter f ((vs ++ [AV.c (.ptr i 0)]).map (concV ρ)).toArray) w := by
    have h2' : fn.body ≠ none := fun e => by rw [e] at h2; cases h2
    have h3' : ¬ fn.name = "runtime.NumGoroutine" := by simpa using h3
    simp [execOp, ho, resolve, hf, hat', Deferred.ofValue, invoke, callFunc, h1, h2', h3', he, concV, conc]
  rw [ha, hrun]
  show Calls P f _ w _
  refine hc.mono fun e w' ⟨δ, ρ', al', hd, hst, hok, he⟩ => ?_
  rw [he]
  exact hk δ ρ' al' w' hd hst hok

theorem update_goes (h : Rep E B0 ⟨d :: B, al, n, ρ, w⟩) (hE : EnvOk P E) (hs : SlotsOk ρ al s a) {t : Nat} {m k x : Operand} (hop : o.op = .mapUpdate t m k x ∨ o.op = .insert t m k x)
    (hev : (match assoc E.tys t, val s m, val s k, val s x with
    | some r, some (.c (.mref i)), some (.c (.int .i64 q)), some (.agg []) => match r.desc, get (d :: B) i with
      | .map kt _, some (.pm ks clock) => match assoc E.tys kt with
        | some { desc := .int .i64, .. } => if pfind q ks then some (AV.c .undef, (i, some (AObj.pm ks clock)) :: d, n) else some (.c .undef, (i, some (.pm (ks ++ [(q, clock)]) (clock + 1))) :: d, n)
        | _ => none
      | _, _ => none
    | some r, some (.c (.mref i)), some (.agg [.str nm, .int .i64 q]), some (.c (.mref j)) => match r.desc, get (d :: B) i with
      | .map kt _, some (.km es clock) => if isKeyT E kt then (match kfind nm q es with
        | some _ => none
        | none => some (.c .undef, (i, some (.km (es ++ [(nm, q, j, clock)]) (clock + 1))) :: d, n)) else none
      | _, _ => none
    | _, _, _, _ => none) = some (v, d', n')) : Goes P E B0 o a B d al n ρ w v d' n' := by
  split at hev
  · rename_i r i q hr hx hy hz
    split at hev
    · rename_i kt et ks clock hd hob
      split at hev
      · rename_i hrk
        exact goes_update_pm h hE hs hop hr hd hx hy hz hob hrk rfl hev
      · cases hev
    · cases hev
  · rename_i r i nm q j hr hx hy hz
    split at hev
    · rename_i kt et es clock hd hob
      split at hev
      · rename_i hk
        split at hev
        · cases hev
        · rename_i hnot
          cases hev
          exact goes_update_km h hE hs hop hr hd hx hy hz hob hk hnot
      · cases hev
    · cases hev
  · cases hev

theorem evOp_goes (h : Rep E B0 ⟨d :: B, al, n, ρ, w⟩) (hE : EnvOk P E) (hs : SlotsOk ρ al s a) (hcall : CallOk P E B0 call) (hev : evOp E call s o B d n = some (v, d', n')) : Goes P E B0 o a B d al n ρ w v d' n' := by
  cases hop : o.op with
  | move x =>
    simp only [evOp, hop] at hev
    split at hev <;> cases hev
    rename_i hx
    exact goes_move h hE hs (.inl hop) hx
  | assign x =>
    simp only [evOp, hop] at hev
    split at hev <;> cases hev
    rename_i hx
    exact goes_move h hE hs (.inr hop) hx
  | pick c x y =>
    simp only [evOp, hop] at hev
    split at hev <;> cases hev
    rename_i hc hx hy
    exact goes_pick h hE hs hop hc hx hy
  | alloc t =>
    simp only [evOp, hop] at hev
    split at hev
    · rename_i r hr
      split at hev <;> cases hev
      rename_i hc
      simp only [Bool.and_eq_true, beq_iff_eq] at hc
      exact goes_alloc h hE hs hop hr hc.1
    · cases hev
  | box t x =>
    simp only [evOp, hop] at hev
    split at hev
    · rename_i r u hr hx
      split at hev <;> cases hev
      rename_i hc
      simp only [Bool.and_eq_true, beq_iff_eq, bne_iff_ne] at hc
      exact goes_box h hE hs hop hr hx hc.1.1 hc.1.2 hc.2
    · cases hev
  | build t parts =>
    simp only [evOp, hop] at hev
    split at hev
    · rename_i r ps hr hp
      split at hev
      · rename_i fields hd
        split at hev
        · rename_i hc
          simp only [Bool.and_eq_true] at hc
          split at hev <;> cases hev
          rename_i l hl
          exact goes_build h hE hs hop hr hp hd hc.1 hc.2 hl
        · cases hev
      · cases hev
    · cases hev
  | buildSlice t len parts =>
    simp only [evOp, hop] at hev
    split at hev
    · rename_i r ps hr hp
      split at hev
      · rename_i e hd
        split at hev
        · rename_i re hre
          split at hev
          · cases hev
          · rename_i hc
            simp only [Bool.or_eq_true, not_or, Bool.not_eq_true, beq_eq_false_iff_ne, decide_eq_false_iff_not, Nat.not_lt, bne_eq_false_iff_eq] at hc
            split at hev
            · rename_i l hl
              split at hev <;> cases hev
              rename_i hg
              simp only [Bool.and_eq_true, beq_iff_eq] at hg
              exact goes_buildSlice h hE hs hop hr hp hd hre hc.1.1.1.1 hc.1.1.1.2 hc.1.1.2 hc.1.2 hl hg.2
            · cases hev
        · cases hev
      · cases hev
    · cases hev
  | load t x =>
    simp only [evOp, hop] at hev
    split at hev
    · rename_i r i off hr hx
      split at hev
      · rename_i e cs hob
        have hv : ∃ u, (if isAggD r.desc then (if off + r.size ≤ cs.length then some (AV.agg ((cs.drop off).take r.size)) else none)
            else (match cs[off]? with
              | some x => some (.c x)
              | none => none)) = some u ∧ u = v ∧ d' = d ∧ n' = n := by
          split at hev
          · rename_i ha
            split at hev <;> cases hev
            rename_i hle
            exact ⟨_, by rw [if_pos ha, if_pos hle], rfl, rfl, rfl⟩
          · rename_i ha
            split at hev <;> cases hev
            rename_i c hc
            exact ⟨_, by rw [if_neg ha, hc], rfl, rfl, rfl⟩
        obtain ⟨u, hu, rfl, rfl, rfl⟩ := hv
        exact goes_load h hE hs hop hr hx hob hu
      · cases hev
    · rename_i r b off hr hx
      have hv : ∃ u, (if isAggD r.desc then (match memCells E b off r.size with
          | some l => some (AV.agg l)
          | none => none)
        else (match E.mem b off with
          | some x => some (.c (lift x))
          | none => none)) = some u ∧ u = v ∧ d' = d ∧ n' = n := by
        split at hev
        · rename_i ha
          split at hev <;> cases hev
          rename_i l hl
          exact ⟨_, by rw [if_pos ha, hl], rfl, rfl, rfl⟩
        · rename_i ha
          split at hev <;> cases hev
          rename_i c hc
          exact ⟨_, by rw [if_neg ha, hc], rfl, rfl, rfl⟩
      obtain ⟨u, hu, rfl, rfl, rfl⟩ := hv
      exact goes_loadRaw h hE hs hop hr hx hu
    · cases hev
  | store t x y =>
    simp only [evOp, hop] at hev
    split at hev
    · rename_i r i off u hr hx hy
      split at hev
      · rename_i e cs hob
        split at hev <;> cases hev
        rename_i hc
        simp only [Bool.and_eq_true, beq_iff_eq, decide_eq_true_eq, bne_iff_ne, Bool.or_eq_true] at hc
        exact goes_store h hE hs hop hr hx hy hob hc.1.1.1 hc.1.1.2 hc.1.2 hc.2
      · cases hev
    · cases hev
  | nilCheck x =>
    simp only [evOp, hop] at hev
    split at hev
    · cases hev
      rename_i hx
      exact nilCheck_goes h hE hs hop hx
    · cases hev
      rename_i hx
      exact nilCheck_raw h hE hs hop hx
    · cases hev
  | binOp op t x y t' =>
    simp only [evOp, hop] at hev
    split at hev
    · rename_i u1 u2 hx hy
      split at hev <;> cases hev
      rename_i c hc
      exact goes_binOp h hE hs hop hx hy hc
    · cases hev
  | unOp op t x =>
    cases op <;> simp only [evOp, hop] at hev <;> try (cases hev; done)
    split at hev <;> cases hev
    rename_i hx
    exact goes_not h hE hs hop hx
  | convert t1 t2 x =>
    simp only [evOp, hop] at hev
    split at hev
    · rename_i u hx
      split at hev <;> cases hev
      rename_i c hc
      exact goes_convert h hE hs hop hx hc
    · cases hev
  | slice t x lo hi mx =>
    cases lo <;> cases hi <;> cases mx <;> simp only [evOp, hop] at hev <;> try (cases hev; done)
    · split at hev
      · rename_i r l k2 q hr hx hhi
        split at hev
        · rename_i hd
          split at hev <;> cases hev
          rename_i hc
          exact goes_slice_hi h hE hs hop hr hx hhi hd hc.1 hc.2
        · cases hev
      · rename_i r i len k2 q hr hx hhi
        split at hev
        · rename_i e hd
          split at hev
          · rename_i re ei ci hre hob
            split at hev <;> cases hev
            rename_i hc
            exact goes_slice_row h hE hs hop hr hx hhi hd hre hob hc.1 hc.2.1 hc.2.2.1 hc.2.2.2.1 hc.2.2.2.2
          · cases hev
        · cases hev
      · rename_i r b off len cap k2 q hr hx hhi
        split at hev
        · rename_i e hd
          split at hev
          · rename_i re hre
            split at hev <;> cases hev
            rename_i hc
            exact goes_slice_raw h hE hs hop hr hx hhi hd hre hc.1 hc.2
          · cases hev
        · cases hev
      · cases hev
    · split at hev
      · rename_i r l k1 p hr hx hlo
        split at hev
        · rename_i hd
          split at hev <;> cases hev
          rename_i hc
          exact goes_slice_lo h hE hs hop hr hx hlo hd hc.1 hc.2
        · cases hev
      · cases hev
    · split at hev
      · rename_i r l k1 p k2 q hr hx hlo hhi
        split at hev
        · rename_i hd
          split at hev <;> cases hev
          rename_i hc
          exact goes_slice h hE hs hop hr hx hlo hhi hd hc.1 hc.2.1 hc.2.2
        · cases hev
      · cases hev
  | fieldAddr t x f =>
    simp only [evOp, hop] at hev
    split at hev
    · rename_i r i off hr hx
      split at hev
      · rename_i fields hd
        split at hev
        · rename_i fd hf
          split at hev
          · rename_i rf hrf
            split at hev <;> cases hev
            rename_i hz
            exact goes_fieldAddr h hE hs hop hr hx hd hf hrf (by simpa using hz)
          · cases hev
        · cases hev
      · cases hev
    · rename_i r b off hr hx
      split at hev
      · rename_i fields hd
        split at hev
        · rename_i fd hf
          split at hev
          · rename_i rf hrf
            split at hev <;> cases hev
            rename_i hz
            exact goes_fieldAddr_raw h hE hs hop hr hx hd hf hrf (by simpa using hz)
          · cases hev
        · cases hev
      · cases hev
    · cases hev
  | indexAddr t x y =>
    simp only [evOp, hop] at hev
    split at hev
    · rename_i r i len kk k hr hx hy
      split at hev
      · rename_i e hd
        split at hev
        · rename_i re hre
          split at hev <;> cases hev
          rename_i hc
          exact goes_indexAddr h hE hs hop hr hx hy hd hre hc.1 hc.2
        · cases hev
      · cases hev
    · rename_i r b off len cap kk k hr hx hy
      split at hev
      · rename_i e hd
        split at hev
        · rename_i re hre
          split at hev <;> cases hev
          rename_i hc
          exact goes_indexAddr_raw h hE hs hop hr hx hy hd hre hc.1 hc.2
        · cases hev
      · cases hev
    · cases hev
  | index t x y =>
    simp only [evOp, hop] at hev
    split at hev
    · rename_i r l kk k hr hx hy
      split at hev
      · rename_i hd
        split at hev
        · rename_i h0
          split at hev <;> cases hev
          rename_i b hb
          exact goes_index h hE hs hop hr hx hy hd h0 hb
        · cases hev
      · cases hev
    · cases hev
  | extract x i =>
    simp only [evOp, hop] at hev
    split at hev
    · rename_i l hx
      split at hev <;> cases hev
      · rename_i hc
        exact goes_extract_unit h hE hs hop hx hc
      · rename_i c hc hne
        exact goes_extract h hE hs hop hx hne
    · cases hev
  | makeSlice t x y =>
    simp only [evOp, hop] at hev
    split at hev
    · rename_i r k1 k2 hr hx hy
      split at hev
      · rename_i e hd
        split at hev
        · rename_i re hre
          split at hev <;> cases hev
          rename_i hc
          simp only [Bool.and_eq_true, beq_iff_eq, decide_eq_true_eq] at hc
          obtain ⟨⟨⟨⟨⟨⟨h1, h2⟩, h3⟩, h4⟩, h5⟩, h6⟩, h7⟩ := hc
          subst h1
          exact goes_makeSlice h hE hs hop hr hx hy hd hre h2 h3 h4 h5 h6
        · cases hev
      · cases hev
    · cases hev
  | makeMap t rs =>
    cases rs with
    | some x => simp [evOp, hop] at hev
    | none =>
      simp only [evOp, hop] at hev
      split at hev
      · split at hev
        · split at hev
          · split at hev <;> cases hev
            · exact goes_makeMap h hE hs _ hop (.inl rfl)
            · exact goes_makeMap h hE hs _ hop (.inr rfl)
          · cases hev
        · cases hev
      · cases hev
  | mapUpdate t m k x =>
    simp only [evOp, hop] at hev
    exact update_goes h hE hs (.inl hop) hev
  | insert t m k x =>
    simp only [evOp, hop] at hev
    exact update_goes h hE hs (.inr hop) hev
  | lookup t m k ok =>
    simp only [evOp, hop] at hev
    split at hev
    · rename_i r i nm q hr hx hy
      split at hev
      · rename_i kt et es clock hd hob
        split at hev
        · rename_i hk
          exact goes_lookup (q := 0) h hE hs hop hr hd hx hy hob hk hev
        · cases hev
      · cases hev
    · cases hev
  | range t x =>
    simp only [evOp, hop] at hev
    split at hev
    · rename_i r l hr hx
      split at hev <;> cases hev
      rename_i hd
      exact goes_range_str h hE hs hop hr hd hx
    · rename_i r m hr hx
      split at hev <;> cases hev
      · rename_i kt et ks clock hd hob
        exact goes_range_map h hE hs hop hr hd hx hob (.inl ⟨_, rfl⟩)
      · rename_i kt et es clock hd hob
        exact goes_range_map h hE hs hop hr hd hx hob (.inr ⟨_, rfl⟩)
    · cases hev
  | next x b =>
    cases b with
    | false => simp [evOp, hop] at hev
    | true =>
      simp only [evOp, hop] at hev
      split at hev
      · rename_i i hx
        split at hev
        · rename_i l pos hob
          exact goes_next_str h hE hs hop hx hob hev
        · cases hev
      · cases hev
  | entry x =>
    simp only [evOp, hop] at hev
    split at hev
    · rename_i i hx
      split at hev
      · rename_i m since was stepped hob
        split at hev
        · rename_i st ks clock hst hom
          split at hev
          · cases hev
          · rename_i hc
            split at hev <;> cases hev
            rename_i p hp
            exact goes_entry h hE hs hop hx hob hst hom (by simpa using hc) hp
        · cases hev
      · cases hev
    · cases hev
  | makeFunc f first captured =>
    cases f with
    | func f =>
      simp only [evOp, hop] at hev
      split at hev <;> cases hev
      rename_i i hf hv
      exact goes_makeFunc h hE hs hop hf hv
    | _ => simp [evOp, hop] at hev
  | call c =>
    simp only [evOp, hop] at hev
    split at hev
    · rename_i f hf
      split at hev
      · rename_i vs hv
        exact goes_call h hs hcall hop hf hv hev
      · cases hev
    · rename_i t hf
      split at hev
      · rename_i f i vs ht hv
        exact goes_call_clo h hs hcall hop hf ht hv hev
      · cases hev
    · rename_i b hb
      split at hev
      · rename_i vs hv
        exact goes_builtin h hE hs hop hb hv hev
      · cases hev
    · cases hev
  | _ => simp [evOp, hop] at hev

/-! ### Guards, rows of operations -/

theorem evWanted_at {ops : Array Oper} (hsz : a.tmps.size = s.nt) (hat0 : ∀ t, t ∈ o.looksAt ops → a.tmps.getD t Go.undef = concV ρ (s.get t)) {b : Bool} (hw : evWanted s ops.toList o = some b) : Region.wanted o (yielded ops a.tmps) = b := by
  unfold evWanted at hw
  unfold Region.wanted
  split at hw
  · rename_i hg
    rw [hg]
    simpa using hw
  · rename_i j want hg
    rw [hg]
    simp only
    split at hw
    · rename_i oj hj
      split at hw
      · rename_i t ht
        split at hw
        · rename_i hlt
          have hj' : ops[j]? = some oj := by simpa using hj
          have hat := hat0 t (by simp [Oper.looksAt, hg, hj', ht])
          have hlt' : t < a.tmps.size := by rw [hsz]; exact hlt
          have hget : a.tmps[t]? = some (concV ρ (s.get t)) := by
            rw [← hat, Array.getD_eq_getD_getElem?, Array.getElem?_eq_getElem hlt']
            rfl
          have hy : yielded ops a.tmps j = match concV ρ (s.get t) with | .bool b => some b | _ => none := by
            unfold yielded
            simp only [hj', Option.bind_some, ht, hget]
            cases concV ρ (s.get t) <;> rfl
          rw [hy]
          split at hw
          · rename_i b' hb
            rw [hb]
            simp only [Option.some.injEq] at hw
            subst hw
            show (some b' == some want) = (b' == want)
            rfl
          · rename_i hb
            rw [hb]
            simp only [Option.some.injEq] at hw
            subst hw
            rfl
          · cases hw
        · cases hw
      · cases hw
    · cases hw

theorem step_slots {δ : Seg} {al' : Nat → Prop} {ρ' : Rho} {w' : World} (h : Rep E B0 ⟨d :: B, al, n, ρ, w⟩) (hs : SlotsOk ρ al s a) (hst : Step E B0 (In δ) ⟨d :: B, al, n, ρ, w⟩ ⟨d' :: B, al', n', ρ', w'⟩) : SlotsOk ρ' al' s a :=
  hs.step (fun i hi => hst.agree i (.inl (h.lt i hi))) (fun i hi => (hst.al_eq i).2 (.inl hi))

theorem evWanted_ok (hs : SlotsOk ρ al s a) {ops : Array Oper} {b : Bool} (hw : evWanted s ops.toList o = some b) : Region.wanted o (yielded ops a.tmps) = b :=
  evWanted_at hs.size (fun t _ => hs.at_ t) hw

/-- Operations in a row. -/
theorem evOps_ok (hE : EnvOk P E) (hcall : CallOk P E B0 call) (ops : Array Oper) {Q : Exit → Act → World → Prop} : ∀ (l : List Oper) (k : Nat) (s s' : Slots) (d d' : Seg) (n n' : Nat) (al : Nat → Prop) (ρ : Rho) (w : World) (a : Act),
    (∀ j, l[j]? = ops[k + j]?) → Rep E B0 ⟨d :: B, al, n, ρ, w⟩ → SlotsOk ρ al s a → evOps E call ops.toList l s B d n = some (s', d', n') →
    (∀ δ ρ' al' w' a', d' = δ ++ d → Step E B0 (In δ) ⟨d :: B, al, n, ρ, w⟩ ⟨d' :: B, al', n', ρ', w'⟩ → SlotsOk ρ' al' s' a' → a'.defers = a.defers → Q .normal a' w') →
    wpOps P ops Q ((List.range l.length).map (k + ·)) a w
  | [], k, s, s', d, d', n, n', al, ρ, w, a, hl, h, hs, hev, hq => by
    simp only [evOps, Option.some.injEq, Prod.mk.injEq] at hev
    obtain ⟨rfl, rfl, rfl⟩ := hev
    exact hq [] ρ al w a rfl (Step.refl h) hs rfl
  | o :: l, k, s, s', d, d', n, n', al, ρ, w, a, hl, h, hs, hev, hq => by
    have h0 : ops[k]? = some o := by simpa using (hl 0).symm
    have hr : (List.range (o :: l).length).map (k + ·) = k :: (List.range l.length).map (k + 1 + ·) := by
      rw [List.length_cons, List.range_succ_eq_map]
      simp only [List.map_cons, List.map_map, Nat.add_zero]
      congr 1
      refine List.map_congr_left fun j _ => ?_
      simp only [Function.comp]
      omega
    have hl' : ∀ j, l[j]? = ops[k + 1 + j]? := fun j => by
      have := hl (j + 1)
      simpa [Nat.add_assoc, Nat.add_comm 1 j] using this
    rw [hr, wpOps_cons]
    unfold wpOp
    simp only [h0]
    simp only [evOps] at hev
    split at hev
    · cases hev
    · rename_i hw
      rw [evWanted_ok hs hw]
      simp only [Bool.false_eq_true, if_false]
      have hs1 := hs.put o.dst (v := .c .undef) trivial
      exact evOps_ok hE hcall ops l (k + 1) _ s' d d' n n' al ρ w _ hl' h hs1 hev (fun δ ρ' al' w' a' hd hst hs' hdf => hq δ ρ' al' w' a' hd hst hs' (hdf.trans (put_defers _ _ _)))
    · rename_i hw
      rw [evWanted_ok hs hw]
      simp only [if_true]
      split at hev
      · rename_i v d1 n1 hop
        left
        refine evOp_goes h hE hs hcall hop _ _ Q rfl ?_
        intro δ ρ1 al1 w1 hd1 hst1 hv1
        have hs1 := (step_slots h hs hst1).put o.dst hv1
        refine evOps_ok hE hcall ops l (k + 1) _ s' d1 d' n1 n' al1 ρ1 w1 _ hl' hst1.rep hs1 hev ?_
        intro δ2 ρ2 al2 w2 a2 hd2 hst2 hs2 hdf
        refine hq (δ2 ++ δ) ρ2 al2 w2 a2 (by rw [hd2, hd1, List.append_assoc]) (hst1.trans' hst2) hs2 (hdf.trans (put_defers _ _ _))
      · cases hev

end
end Go.Proofs.YtdpielghjaehbaaGreat.Ev
