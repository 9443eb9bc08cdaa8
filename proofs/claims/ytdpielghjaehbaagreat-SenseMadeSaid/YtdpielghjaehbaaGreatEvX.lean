/- The logic's rules as equations, so that simp can step through code: what comes after lies in a list, not under a binder. -/
import Derived.Test.YtdpielghjaehbaaGreatEvW
set_option linter.unusedSectionVars false
set_option linter.unusedSimpArgs false
set_option linter.unusedVariables false
namespace Go.Proofs.YtdpielghjaehbaaGreat.Ev

inductive Fr where
  | seq (c : Code)
  | block (id : Nat)

section
variable (P : Program) (E : Env) (B0 : Nat) (call : CallF)

def runK (Q : AX → Slots → Seg → Nat → Prop) : List Fr → AX → Slots → Seg → Nat → Prop
  | [] => Q
  | .seq b :: K => fun x s d n => match x with
    | .norm => awp P E B0 call b s d n (runK Q K)
    | x => runK Q K x s d n
  | .block id :: K => fun x s d n => match x with
    | .exit j => runK Q K (if j = id then .norm else .exit j) s d n
    | x => runK Q K x s d n

/-- A shell, so that nothing looks inside. -/
structure Wrap (p : Prop) : Prop where
  out : p

theorem wrap_eq {p : Prop} : Wrap p = p := propext ⟨Wrap.out, Wrap.mk⟩

/-- Code, and what comes behind. -/
def codeK (c : Code) (s : Slots) (d : Seg) (n : Nat) (K : List Fr) (Q : AX → Slots → Seg → Nat → Prop) : Prop := Wrap (awp P E B0 call c s d n (runK P E B0 call Q K))
def backK (x : AX) (s : Slots) (d : Seg) (n : Nat) (K : List Fr) (Q : AX → Slots → Seg → Nat → Prop) : Prop := Wrap (runK P E B0 call Q K x s d n)
def opsK (ops l : List Oper) (s : Slots) (d : Seg) (n : Nat) (K : List Fr) (Q : AX → Slots → Seg → Nat → Prop) : Prop := Wrap (awOps P E B0 call ops l s d n (runK P E B0 call Q K .norm))

/-- A call of a function that is not told ahead. -/
def callK (f : Nat) (vs : List AV) (ops : List Oper) (dst : Option Nat) (r : List Oper) (s : Slots) (d : Seg) (n : Nat) (K : List Fr) (Q : AX → Slots → Seg → Nat → Prop) : Prop :=
  Wrap (CallsA P E B0 f vs d n fun v d' n' => opsK P E B0 call ops r (s.put dst v) d' n' K Q)

def valsK (f : Nat) : Option (List AV) → List Oper → Option Nat → List Oper → Slots → Seg → Nat → List Fr → (AX → Slots → Seg → Nat → Prop) → Prop
  | some vs, ops, dst, r, s, d, n, K, Q => callK P E B0 call f vs ops dst r s d n K Q
  | none, _, _, _, _, _, _, _, _ => False

def cloK : AV → Option (List AV) → List Oper → Option Nat → List Oper → Slots → Seg → Nat → List Fr → (AX → Slots → Seg → Nat → Prop) → Prop
  | .c (.clo f i), some vs, ops, dst, r, s, d, n, K, Q => callK P E B0 call f (vs ++ [.c (.ptr i 0)]) ops dst r s d n K Q
  | _, _, _, _, _, _, _, _, _, _ => False

/-- A step through a map of numbers. -/
def nextK (i : Nat) (ops : List Oper) (dst : Option Nat) (r : List Oper) (s : Slots) (d : Seg) (n : Nat) (K : List Fr) (Q : AX → Slots → Seg → Nat → Prop) : Prop :=
  ∃ m since was stepped ks clock, get [d] i = some (.mit m since was stepped) ∧ get [d] m = some (.pm ks clock) ∧ (∀ p ∈ ks, p.2 < since) ∧ since ≤ stepped ∧
    ((∀ p ∈ ks, p.2 ∈ was) → opsK P E B0 call ops r (s.put dst (.tup [.bool false])) d n K Q) ∧
    (∀ p ∈ ks, p.2 ∉ was → opsK P E B0 call ops r (s.put dst (.tup [.bool true, .int .i64 p.1, .raw (.agg ⟨[]⟩)])) ((i, some (.mit m since (was ++ [p.2]) clock)) :: d) n K Q)

def itK : Option AV → List Oper → Option Nat → List Oper → Slots → Seg → Nat → List Fr → (AX → Slots → Seg → Nat → Prop) → Prop
  | some (.c (.ptr i 0)), ops, dst, r, s, d, n, K, Q => nextK P E B0 call i ops dst r s d n K Q
  | _, _, _, _, _, _, _, _, _ => False

def elseK (op : Op) (ops : List Oper) (dst : Option Nat) (r : List Oper) (s : Slots) (d : Seg) (n : Nat) (K : List Fr) (Q : AX → Slots → Seg → Nat → Prop) : Prop :=
  match op with
  | .call c => match c.callee with
    | .value (.func f) => valsK P E B0 call f (vals s c.args.toList) ops dst r s d n K Q
    | .value (.tmp t) => cloK P E B0 call (s.get t) (vals s c.args.toList) ops dst r s d n K Q
    | _ => False
  | .next it false => itK P E B0 call (val s it) ops dst r s d n K Q
  | _ => False

def opK : Option (AV × Seg × Nat) → List Oper → Oper → List Oper → Slots → Seg → Nat → List Fr → (AX → Slots → Seg → Nat → Prop) → Prop
  | some (v, d', n'), ops, o, r, s, d, n, K, Q => opsK P E B0 call ops r (s.put o.dst v) d' n' K Q
  | none, ops, o, r, s, d, n, K, Q => elseK P E B0 call o.op ops o.dst r s d n K Q

def wantK : Option Bool → List Oper → Oper → List Oper → Slots → Seg → Nat → List Fr → (AX → Slots → Seg → Nat → Prop) → Prop
  | some true, ops, o, r, s, d, n, K, Q => opK P E B0 call (evOp E call s o [] d n) ops o r s d n K Q
  | some false, ops, o, r, s, d, n, K, Q => opsK P E B0 call ops r (s.put o.dst (.c .undef)) d n K Q
  | none, _, _, _, _, _, _, _, _ => False

def condK : Option AV → Code → Code → Slots → Seg → Nat → List Fr → (AX → Slots → Seg → Nat → Prop) → Prop
  | some (.c (.bool t)), a, b, s, d, n, K, Q => (t = true → codeK P E B0 call a s d n K Q) ∧ (t = false → codeK P E B0 call b s d n K Q)
  | _, _, _, _, _, _, _, _ => False

end

section
variable {P : Program} {E : Env} {B0 : Nat} {call : CallF} {s : Slots} {d d' : Seg} {n n' : Nat} {K : List Fr} {Q : AX → Slots → Seg → Nat → Prop}

theorem code_skip : codeK P E B0 call .skip s d n K Q = backK P E B0 call .norm s d n K Q := rfl
theorem code_label {l} : codeK P E B0 call (.label l) s d n K Q = backK P E B0 call .norm s d n K Q := rfl
theorem code_region {id : Nat} {ops : Array Oper} : codeK P E B0 call (.region id ops false) s d n K Q = opsK P E B0 call ops.toList ops.toList s d n K Q := rfl
theorem code_seq {a b : Code} : codeK P E B0 call (.seq a b) s d n K Q = codeK P E B0 call a s d n (.seq b :: K) Q := rfl
theorem code_block {id : Nat} {c : Code} : codeK P E B0 call (.block id c) s d n K Q = codeK P E B0 call c s d n (.block id :: K) Q := rfl
theorem code_exit {id : Nat} : codeK P E B0 call (.exit id) s d n K Q = backK P E B0 call (.exit id) s d n K Q := rfl
theorem code_ret : codeK P E B0 call .ret s d n K Q = backK P E B0 call .ret s d n K Q := rfl
theorem code_cond {c : Operand} {a b : Code} : codeK P E B0 call (.cond c a b) s d n K Q = condK P E B0 call (val s c) a b s d n K Q := by
  simp only [codeK, awp, wrap_eq]
  cases val s c with
  | none => rfl
  | some v => cases v with
    | c x => cases x <;> simp only [condK, codeK, wrap_eq]
    | _ => rfl
theorem back_nil {x : AX} : backK P E B0 call x s d n [] Q = Q x s d n := wrap_eq
theorem back_seq {b : Code} : backK P E B0 call .norm s d n (.seq b :: K) Q = codeK P E B0 call b s d n K Q := rfl
theorem back_seq_exit {b : Code} {j : Nat} : backK P E B0 call (.exit j) s d n (.seq b :: K) Q = backK P E B0 call (.exit j) s d n K Q := rfl
theorem back_seq_ret {b : Code} : backK P E B0 call .ret s d n (.seq b :: K) Q = backK P E B0 call .ret s d n K Q := rfl
theorem back_block {id : Nat} : backK P E B0 call .norm s d n (.block id :: K) Q = backK P E B0 call .norm s d n K Q := rfl
theorem back_block_exit {id j : Nat} : backK P E B0 call (.exit j) s d n (.block id :: K) Q = backK P E B0 call (if j = id then .norm else .exit j) s d n K Q := rfl
theorem back_block_ret {id : Nat} : backK P E B0 call .ret s d n (.block id :: K) Q = backK P E B0 call .ret s d n K Q := rfl
theorem ops_nil {ops : List Oper} : opsK P E B0 call ops [] s d n K Q = backK P E B0 call .norm s d n K Q := rfl
theorem ops_cons {ops r : List Oper} {o : Oper} : opsK P E B0 call ops (o :: r) s d n K Q = wantK P E B0 call (evWanted s ops o) ops o r s d n K Q := by
  simp only [opsK, awOps, wrap_eq]
  cases evWanted s ops o with
  | none => rfl
  | some b => cases b with
    | false => simp only [wantK, opsK, wrap_eq]
    | true =>
      simp only [wantK]
      cases evOp E call s o [] d n with
      | some x => simp only [opK, opsK, wrap_eq]
      | none =>
        simp only [opK, elseK]
        cases o.op with
        | call c =>
          simp only
          cases c.callee with
          | value f => cases f with
            | func f => simp only; cases vals s c.args.toList <;> simp only [valsK, callK, opsK, wrap_eq]
            | tmp t =>
              simp only
              cases s.get t with
              | c x => cases x with
                | clo f i => cases vals s c.args.toList <;> simp only [cloK, callK, opsK, wrap_eq]
                | _ => rfl
              | _ => rfl
            | _ => rfl
          | _ => rfl
        | next it b => cases b with
          | true => rfl
          | false =>
            simp only
            cases val s it with
            | none => rfl
            | some v => cases v with
              | c x => cases x with
                | ptr i off => cases off <;> simp only [itK, nextK, opsK, wrap_eq]
                | _ => rfl
              | _ => rfl
        | _ => rfl
theorem want_true {ops r : List Oper} {o : Oper} : wantK P E B0 call (some true) ops o r s d n K Q = opK P E B0 call (evOp E call s o [] d n) ops o r s d n K Q := rfl
theorem want_false {ops r : List Oper} {o : Oper} : wantK P E B0 call (some false) ops o r s d n K Q = opsK P E B0 call ops r (s.put o.dst (.c .undef)) d n K Q := rfl
theorem op_some {ops r : List Oper} {o : Oper} {v : AV} : opK P E B0 call (some (v, d', n')) ops o r s d n K Q = opsK P E B0 call ops r (s.put o.dst v) d' n' K Q := rfl
theorem op_none {ops r : List Oper} {o : Oper} : opK P E B0 call none ops o r s d n K Q = elseK P E B0 call o.op ops o.dst r s d n K Q := rfl
theorem else_call {ops r : List Oper} {dst : Option Nat} {f : Nat} {args : Array Operand} {tys : Array TypeId} :
    elseK P E B0 call (.call { callee := .value (.func f), args := args, argTypes := tys }) ops dst r s d n K Q = valsK P E B0 call f (vals s args.toList) ops dst r s d n K Q := rfl
theorem else_clo {ops r : List Oper} {dst : Option Nat} {t : Nat} {args : Array Operand} {tys : Array TypeId} :
    elseK P E B0 call (.call { callee := .value (.tmp t), args := args, argTypes := tys }) ops dst r s d n K Q = cloK P E B0 call (s.get t) (vals s args.toList) ops dst r s d n K Q := rfl
theorem clo_some {ops r : List Oper} {dst : Option Nat} {f i : Nat} {vs : List AV} : cloK P E B0 call (.c (.clo f i)) (some vs) ops dst r s d n K Q = callK P E B0 call f (vs ++ [.c (.ptr i 0)]) ops dst r s d n K Q := rfl
theorem else_next {ops r : List Oper} {dst : Option Nat} {it : Operand} : elseK P E B0 call (.next it false) ops dst r s d n K Q = itK P E B0 call (val s it) ops dst r s d n K Q := rfl
theorem vals_some {ops r : List Oper} {dst : Option Nat} {f : Nat} {vs : List AV} : valsK P E B0 call f (some vs) ops dst r s d n K Q = callK P E B0 call f vs ops dst r s d n K Q := rfl
theorem it_some {ops r : List Oper} {dst : Option Nat} {i : Nat} : itK P E B0 call (some (.c (.ptr i 0))) ops dst r s d n K Q = nextK P E B0 call i ops dst r s d n K Q := rfl
theorem cond_some {t : Bool} {a b : Code} : condK P E B0 call (some (.c (.bool t))) a b s d n K Q = ((t = true → codeK P E B0 call a s d n K Q) ∧ (t = false → codeK P E B0 call b s d n K Q)) := rfl

theorem get_args {nt : Nat} {l : List AV} {t : Nat} : Slots.get ⟨nt, argSlots l 0⟩ t = (l[t]?).getD (.c .undef) := by
  simp only [Slots.get, sfind_args, Nat.zero_le, if_true, Nat.sub_zero]

/-- A function, by its body. -/
theorem callsA_code (hE : EnvOk P E) (hcall : CallOk P E B0 call) {f nt : Nat} {fn : Func} {c : Code} {rs : List ResultVar} {args : List AV} {R : AV → Seg → Nat → Prop} (hP : P.funcs[f]? = some fn) (hc : fn.body = some c) (hname : (fn.name == "runtime.NumGoroutine") = false)
    (hnt : fn.ntmps = nt) (hrs : fn.results.toList = rs) (hle : args.length ≤ nt)
    (h : Live d n → (∀ x ∈ args, x.ok (· < n)) → ∀ Q, (∀ x s' d' n' v, (x = .norm ∨ x = .ret) → finalOf E s' [d'] rs = some v → R v d' n' → Q x s' d' n') → codeK P E B0 call c ⟨nt, argSlots args 0⟩ d n [] Q) : CallsA P E B0 f args d n R := by
  refine callsA_of hE hP hc hname (by omega) fun hl ha => ?_
  subst hnt; subst hrs
  refine awp_ok hE hcall _ _ _ _ _ (h hl ha _ fun x s' d' n' v hx hf hR => ⟨hx, v, hf, hR⟩).out

/-- A loop inside code. -/
theorem code_loop {c : Code} (hE : EnvOk P E) (hcall : CallOk P E B0 call) (I : Nat → Slots → Seg → Nat → Prop) (k : Nat) (h0 : I k s d n)
    (step : ∀ k s d n, I k s d n → Live d n → (∀ t, (s.get t).ok (· < n)) → ∀ Q', (∀ k' s' d' n', k' < k → I k' s' d' n' → Q' .norm s' d' n') → (∀ x s' d' n', x ≠ .norm → backK P E B0 call x s' d' n' K Q → Q' x s' d' n') → codeK P E B0 call c s d n [] Q') :
    codeK P E B0 call (.loop c) s d n K Q := by
  refine ⟨aw_loop (P := P) (E := E) (B0 := B0) (c := c) (Q := runK P E B0 call Q K) I ?_ k s d n h0⟩
  intro k s d n hI hl hs
  refine awp_ok hE hcall _ _ _ _ _ ?_
  refine (step k s d n hI hl hs _ (fun k' s' d' n' hk hI' => ⟨k', hk, hI'⟩) fun x s' d' n' hx hb => ?_).out
  cases x with
  | norm => exact absurd rfl hx
  | exit id => exact hb.out
  | ret => exact hb.out

/-- A region that draws, inside code. -/
theorem code_draw {id : Nat} {ops : Array Oper} (hE : EnvOk P E) (hcall : CallOk P E B0 call) (hst : statOk ops = true) {s' : Slots} (h : evDraw E call ops.toList [] s d n = some (s', d', n')) (k : backK P E B0 call .norm s' d' n' K Q) :
    codeK P E B0 call (.region id ops true) s d n K Q := ⟨aw_draw hE hcall hst h k.out⟩

theorem call_mono {f : Nat} {vs : List AV} {ops r : List Oper} {dst : Option Nat} {R : AV → Seg → Nat → Prop} (h : CallsA P E B0 f vs d n R)
    (k : ∀ v d' n', R v d' n' → Live d' n' → n ≤ n' → v.ok (· < n') → opsK P E B0 call ops r (s.put dst v) d' n' K Q) : callK P E B0 call f vs ops dst r s d n K Q := ⟨h.mono k⟩

end
end Go.Proofs.YtdpielghjaehbaaGreat.Ev

/- Contracts that say one outcome alone, as functions known ahead. -/
set_option linter.unusedSectionVars false
set_option linter.unusedSimpArgs false
set_option linter.unusedVariables false
namespace Go.Proofs.YtdpielghjaehbaaGreat.Ev

section
variable {P : Program} {E : Env} {B0 : Nat}

theorem Rep.congrH {H H' : List Seg} {al : Nat → Prop} {n : Nat} {ρ : Rho} {w : World} (e : ∀ i, get H' i = get H i) (h : Rep E B0 ⟨H, al, n, ρ, w⟩) : Rep E B0 ⟨H', al, n, ρ, w⟩ where
  obj i o ho := h.obj i o (by simp only [e] at ho; exact ho)
  lo i o ho := h.lo i o (by simp only [e] at ho; exact ho)
  inj i j o p hi hj := h.inj i j o p (by simp only [e] at hi; exact hi) (by simp only [e] at hj; exact hj)
  al i o ho := h.al i o (by simp only [e] at ho; exact ho)
  lt := h.lt
  base := h.base
  mem := h.mem

theorem Step.congrH {T : Nat → Prop} {H1 H2 H1' H2' : List Seg} {al al' : Nat → Prop} {n n' : Nat} {ρ ρ' : Rho} {w w' : World} (e1 : ∀ i, get H1' i = get H1 i) (e2 : ∀ i, get H2' i = get H2 i)
    (h : Step E B0 T ⟨H1, al, n, ρ, w⟩ ⟨H2, al', n', ρ', w'⟩) : Step E B0 T ⟨H1', al, n, ρ, w⟩ ⟨H2', al', n', ρ', w'⟩ where
  rep := h.rep.congrH e2
  al_eq := h.al_eq
  n_le := h.n_le
  agree := h.agree
  kept i hi := by simp only [e1, e2]; exact h.kept i hi
  live i hi hn := by simp only [e1]; exact h.live i hi hn
  ids := h.ids
  size := h.size
  frame := h.frame
  newb i o hi ho := h.newb i o hi (by simp only [e2] at ho; exact ho)
  misc := h.misc

theorem get_flatten (d : Seg) (B : List Seg) (i : Nat) : get [d ++ B.flatten] i = get (d :: B) i := by
  simp only [get, look_append]
  cases look d i with
  | some o => rfl
  | none =>
    simp only
    induction B with
    | nil => rfl
    | cons b B ih =>
      simp only [List.flatten_cons, look_append, get]
      cases look b i with
      | some o => rfl
      | none => exact ih

/-- One outcome, whatever the heap. -/
def PureA (P : Program) (E : Env) (B0 : Nat) (f : Nat) (args : List AV) (v : AV) : Prop := ∀ d n, CallsA P E B0 f args d n fun v' d' n' => v' = v ∧ d' = d ∧ n' = n

theorem pure_ok {call : CallF} (h : ∀ f args B d n v d' n', call f args B d n = some (v, d', n') → d' = d ∧ n' = n ∧ PureA P E B0 f args v) : CallOk P E B0 call := by
  intro f args B d n v d' n' al ρ w hc hr hargs
  obtain ⟨rfl, rfl, hp⟩ := h f args B d n v d' n' hc
  obtain ⟨h1, h2⟩ := hp (d' ++ B.flatten) n' al ρ w (hr.congrH fun i => get_flatten d' B i) hargs
  refine ⟨h1, h2.mono fun e w' ⟨v', D, m, δ, ρ', al', ⟨hv, hD, hm⟩, hd, hst, hok, he⟩ => ?_⟩
  subst hv; subst hD; subst hm
  have hδ : δ = [] := by
    have := congrArg List.length hd
    simp only [List.length_append] at this
    exact List.eq_nil_of_length_eq_zero (by omega)
  subst hδ
  exact ⟨[], ρ', al', rfl, hst.congrH (fun i => (get_flatten d' B i).symm) (fun i => (get_flatten d' B i).symm), hok, he⟩

end
end Go.Proofs.YtdpielghjaehbaaGreat.Ev

/- Regions that draw, as equations that simp can step through. -/
set_option linter.unusedSectionVars false
set_option linter.unusedSimpArgs false
set_option linter.unusedVariables false
namespace Go.Proofs.YtdpielghjaehbaaGreat.Ev

theorem beqT {b : Bool} : (b == true) = b := by cases b <;> rfl
theorem beqF {b : Bool} : (b == false) = !b := by cases b <;> rfl

theorem wrap_id {z : Int} (h0 : -9223372036854775808 ≤ z) (h1 : z < 9223372036854775808) : IntKind.i64.wrap z = z := by rw [IntKind.wrap_i64]; omega
theorem wrap_succ {i : Nat} (h : i < 4611686018427387904) : IntKind.i64.wrap ((i : Int) + 1) = ((i + 1 : Nat) : Int) := by rw [wrap_id (by omega) (by omega)]; rfl

section
variable (E : Env) (call : CallF) (ops : List Oper) (bits : List Nat) (B : List Seg) (s : Slots)

def dGo (l : List Oper) (k : Nat) (rs : List Rec) (n : Nat) : Option (List Rec × Nat) := evDrawGo E call ops bits [] B s l k rs n

def dNext : Option (List Rec × Nat) → Option (List Rec × Nat) := id

def dOp : Option (AV × Seg × Nat) → Oper → List Oper → Nat → List Rec → Nat → Option (List Rec × Nat)
  | some (v, δ, n'), o, r, k, rs, n => if n ≤ n' then dGo E call ops bits B s r (k + 1) (⟨v, δ, n, n', o.dst⟩ :: rs) n' else none
  | none, _, _, _, _, _ => none

def dWant : Option Bool → Oper → List Oper → Nat → List Rec → Nat → Option (List Rec × Nat)
  | some true, o, r, k, rs, n => dOp E call ops bits B s (evOp E call (slotsAt s bits rs k) o (heapAt bits [] B rs k) [] n) o r k rs n
  | some false, o, r, k, rs, n => dGo E call ops bits B s r (k + 1) (⟨.c .undef, [], n, n, o.dst⟩ :: rs) n
  | none, _, _, _, _, _ => none

end

section
variable {E : Env} {call : CallF} {ops : List Oper} {bits : List Nat} {B : List Seg} {s : Slots} {n n' k : Nat} {rs : List Rec} {o : Oper} {r : List Oper} {v : AV} {δ : Seg}

theorem d_nil : dGo E call ops bits B s [] k rs n = some (rs, n) := rfl
theorem d_cons : dGo E call ops bits B s (o :: r) k rs n = dWant E call ops bits B s (evWanted (slotsAt s bits rs k) ops o) o r k rs n := by
  simp only [dGo, evDrawGo]
  cases evWanted (slotsAt s bits rs k) ops o with
  | none => rfl
  | some b => cases b with
    | false => rfl
    | true =>
      simp only [dWant]
      cases evOp E call (slotsAt s bits rs k) o (heapAt bits [] B rs k) [] n with
      | none => rfl
      | some x => rfl
theorem d_true : dWant E call ops bits B s (some true) o r k rs n = dOp E call ops bits B s (evOp E call (slotsAt s bits rs k) o (heapAt bits [] B rs k) [] n) o r k rs n := rfl
theorem d_false : dWant E call ops bits B s (some false) o r k rs n = dGo E call ops bits B s r (k + 1) (⟨.c .undef, [], n, n, o.dst⟩ :: rs) n := rfl
theorem d_some : dOp E call ops bits B s (some (v, δ, n)) o r k rs n = dGo E call ops bits B s r (k + 1) (⟨v, δ, n, n, o.dst⟩ :: rs) n := by simp only [dOp, Nat.le_refl, if_true]
theorem d_some1 : dOp E call ops bits B s (some (v, δ, n + 1)) o r k rs n = dGo E call ops bits B s r (k + 1) (⟨v, δ, n, n + 1, o.dst⟩ :: rs) (n + 1) := by simp only [dOp, Nat.le_succ, if_true]

theorem slotsAt_get {t : Nat} : (slotsAt s bits rs k).get t = Slots.get ⟨s.nt, wrs s.nt (bitOf bits k) rs k ++ s.l⟩ t := rfl
theorem slotsAt_nt : (slotsAt s bits rs k).nt = s.nt := rfl
theorem get_mk_cons {nt j t : Nat} {v : AV} {l : List (Nat × AV)} : Slots.get ⟨nt, (j, v) :: l⟩ t = if j = t then v else Slots.get ⟨nt, l⟩ t := by simp only [Slots.get, sfind_cons]
theorem get_mk {nt t : Nat} : Slots.get ⟨nt, s.l⟩ t = s.get t := rfl
theorem wrs_nil {nt : Nat} {p : Nat → Bool} {k : Nat} : wrs nt p [] k = [] := rfl
theorem wrs_cons {nt : Nat} {p : Nat → Bool} {k t lo hi : Nat} {v : AV} {δ : Seg} : wrs nt p (⟨v, δ, lo, hi, some t⟩ :: rs) k = if p (k - 1) && decide (t < nt) then (t, v) :: wrs nt p rs (k - 1) else wrs nt p rs (k - 1) := rfl
theorem wrs_none {nt : Nat} {p : Nat → Bool} {k lo hi : Nat} {v : AV} {δ : Seg} : wrs nt p (⟨v, δ, lo, hi, none⟩ :: rs) k = wrs nt p rs (k - 1) := rfl
theorem get_heapAt {i : Nat} : get ([] :: heapAt bits [] B rs k) i = get (seen (bitOf bits k) rs k ++ B) i := by
  have : (([] : List (List Nat)).getD k []).map (fun i => (i, (none : Option AObj))) = [] := by cases k <;> rfl
  simp only [heapAt, this, get, look]
theorem get_seen_nil {p : Nat → Bool} {i : Nat} : get (seen p [] k ++ B) i = get B i := rfl
theorem get_seen_cons {p : Nat → Bool} {lo hi i : Nat} {v : AV} {dst : Option Nat} : get (seen p (⟨v, [], lo, hi, dst⟩ :: rs) k ++ B) i = get (seen p rs (k - 1) ++ B) i := by
  simp only [seen, tomb, List.map_nil, ite_self, List.cons_append, get, look]
theorem get_seen_one {p : Nat → Bool} {lo hi i j : Nat} {ob : Option AObj} {v : AV} {dst : Option Nat} : get (seen p (⟨v, [(j, ob)], lo, hi, dst⟩ :: rs) k ++ B) i = if j = i then (if p (k - 1) then ob else none) else get (seen p rs (k - 1) ++ B) i := by
  simp only [seen, tomb, List.map_cons, List.map_nil, List.cons_append]
  cases p (k - 1) <;> by_cases e : j = i <;> simp [get, look, e]

variable {P : Program} {B0 : Nat} {d d' : Seg} {K : List Fr} {Q : AX → Slots → Seg → Nat → Prop}

/-- A region that draws, whose operations need no hint. -/
theorem code_drawn {id : Nat} {ops : Array Oper} (hE : EnvOk P E) (hcall : CallOk P E B0 call) (hst : statOk ops = true) (bits : List Nat) (hbits : (befGo ops.toList []).reverse = bits) {rs : List Rec}
    (h : dGo E call ops.toList bits [d] s ops.toList 0 [] n = some (rs, n')) (hl : subAll (laters bits rs ops.toList.length rs.reverse 0) [] = true)
    (k : backK P E B0 call .norm ⟨s.nt, wrs s.nt (fun _ => true) rs ops.toList.length ++ s.l⟩ (flat rs d) n' K Q) :
    codeK P E B0 call (.region id ops true) s d n K Q := by
  refine code_draw hE hcall hst ?_ k
  subst hbits
  unfold evDraw
  simp only
  unfold dGo at h
  rw [h]
  simp only [hl, if_true]

end
/-- All steps through code, as one. -/
theorem stp : type_of% @code_skip ∧ type_of% @code_label ∧ type_of% @code_region ∧ type_of% @code_block ∧ type_of% @code_exit ∧ type_of% @code_ret ∧ type_of% @code_cond ∧ type_of% @back_nil ∧ type_of% @back_seq ∧ type_of% @back_seq_exit ∧ type_of% @back_seq_ret ∧ type_of% @back_block ∧ type_of% @back_block_exit ∧ type_of% @back_block_ret ∧ type_of% @ops_nil ∧ type_of% @ops_cons ∧ type_of% @want_true ∧ type_of% @want_false ∧ type_of% @op_some ∧ type_of% @op_none ∧ type_of% @else_call ∧ type_of% @else_clo ∧ type_of% @clo_some ∧ type_of% @else_next ∧ type_of% @vals_some ∧ type_of% @it_some ∧ type_of% @cond_some ∧ type_of% @val_tmp ∧ type_of% @get_args ∧ type_of% @get_put ∧ type_of% @nt_put ∧ type_of% @put_none ∧ type_of% @beqT ∧ type_of% @beqF ∧ type_of% @get_cons ∧ type_of% @List.getElem?_cons_zero.{0} ∧ type_of% @List.getElem?_cons_succ.{0} ∧ type_of% @List.getElem?_nil.{0} ∧ type_of% @Option.getD_some.{0} ∧ type_of% @Option.getD_none.{0} ∧ type_of% @Bool.false_eq_true ∧ type_of% @and_true ∧ type_of% @true_and ∧ type_of% @and_false ∧ type_of% @false_and ∧ type_of% @and_self ∧ type_of% @Bool.not_true ∧ type_of% @Bool.not_false ∧ type_of% @false_implies ∧ type_of% @true_implies ∧ type_of% @decide_true ∧ type_of% @decide_false ∧ type_of% @beq_self_eq_true.{0} ∧ type_of% @Bool.and_true ∧ type_of% @Bool.true_and ∧ type_of% @Bool.and_self ∧ type_of% @BEq.rfl.{0} ∧ type_of% @List.toList_toArray.{0} ∧ type_of% @List.length_cons.{0} ∧ type_of% @List.length_nil.{0} ∧ type_of% @List.length_map.{0,0} ∧ type_of% @List.length_replicate.{0} ∧ type_of% @List.all_cons.{0} ∧ type_of% @List.all_nil.{0} ∧ type_of% @Nat.zero_add ∧ type_of% @Nat.mul_one ∧ type_of% @bne_self_eq_false.{0} ∧ type_of% @List.getD_cons_zero.{0} := ⟨@code_skip, @code_label, @code_region, @code_block, @code_exit, @code_ret, @code_cond, @back_nil, @back_seq, @back_seq_exit, @back_seq_ret, @back_block, @back_block_exit, @back_block_ret, @ops_nil, @ops_cons, @want_true, @want_false, @op_some, @op_none, @else_call, @else_clo, @clo_some, @else_next, @vals_some, @it_some, @cond_some, @val_tmp, @get_args, @get_put, @nt_put, @put_none, @beqT, @beqF, @get_cons, @List.getElem?_cons_zero.{0}, @List.getElem?_cons_succ.{0}, @List.getElem?_nil.{0}, @Option.getD_some.{0}, @Option.getD_none.{0}, @Bool.false_eq_true, @and_true, @true_and, @and_false, @false_and, @and_self, @Bool.not_true, @Bool.not_false, @false_implies, @true_implies, @decide_true, @decide_false, @beq_self_eq_true.{0}, @Bool.and_true, @Bool.true_and, @Bool.and_self, @BEq.rfl.{0}, @List.toList_toArray.{0}, @List.length_cons.{0}, @List.length_nil.{0}, @List.length_map.{0,0}, @List.length_replicate.{0}, @List.all_cons.{0}, @List.all_nil.{0}, @Nat.zero_add, @Nat.mul_one, @bne_self_eq_false.{0}, @List.getD_cons_zero.{0}⟩

end Go.Proofs.YtdpielghjaehbaaGreat.Ev
