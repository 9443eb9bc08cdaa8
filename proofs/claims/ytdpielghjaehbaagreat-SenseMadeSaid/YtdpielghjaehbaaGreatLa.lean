/- The statements' functions: types; the callees' contracts beside any heap. -/
import Derived.Test.YtdpielghjaehbaaGreatSs
import Derived.Test.YtdpielghjaehbaaGreatEvU
set_option linter.unusedSectionVars false
set_option linter.unusedSimpArgs false
set_option linter.unusedVariables false
namespace Go.Proofs.YtdpielghjaehbaaGreat.Ev
open Go.RowKit

noncomputable def ltys : List (Nat × TyRow) := [(3, { size := 1, bytes := 8, desc := .int .i64, zero := [.int .i64 0], zagg := false }),
  (4, { size := 1, bytes := 1, desc := .bool, zero := [.bool false], zagg := false }),
  (5, { size := 1, bytes := 1, desc := .int .u8, zero := [.int .u8 0], zagg := false }),
  (9, { size := 1, bytes := 16, desc := .string, zero := [.str []], zagg := false }),
  (22, { size := 1, bytes := 24, desc := .slice 5, zero := [.sl0], zagg := false }),
  (33, { size := 1, bytes := 24, desc := .slice 3, zero := [.sl0], zagg := false }),
  (25, { size := 1, bytes := 24, desc := .slice 9, zero := [.sl0], zagg := false }),
  (34, { size := 1, bytes := 24, desc := .slice 36, zero := [.sl0], zagg := false }),
  (23, { size := 1, bytes := 24, desc := .slice 40, zero := [.sl0], zagg := false }),
  (36, { size := 6, bytes := 88, desc := .struct #[{ name := "Kind", type := 3, offset := 0, embedded := false, tag := "", pkgPath := "", byteOffset := 0 }, { name := "Text", type := 9, offset := 1, embedded := false, tag := "", pkgPath := "", byteOffset := 8 }, { name := "N", type := 33, offset := 2, embedded := false, tag := "", pkgPath := "", byteOffset := 24 }, { name := "Min", type := 3, offset := 3, embedded := false, tag := "", pkgPath := "", byteOffset := 48 }, { name := "Max", type := 3, offset := 4, embedded := false, tag := "", pkgPath := "", byteOffset := 56 }, { name := "Kids", type := 34, offset := 5, embedded := false, tag := "", pkgPath := "", byteOffset := 64 }], zero := [.int .i64 0, .str [], .sl0, .int .i64 0, .int .i64 0, .sl0], zagg := true }),
  (40, { size := 7, bytes := 104, desc := .struct #[{ name := "Name", type := 9, offset := 0, embedded := false, tag := "", pkgPath := "", byteOffset := 0 }, { name := "Expr", type := 36, offset := 1, embedded := false, tag := "", pkgPath := "", byteOffset := 16 }], zero := [.str [], .int .i64 0, .str [], .sl0, .int .i64 0, .int .i64 0, .sl0], zagg := true }),
  (98, { size := 1, bytes := 24, desc := .slice 4, zero := [.sl0], zagg := false }),
  (96, { size := 1, bytes := 24, desc := .slice 98, zero := [.sl0], zagg := false }),
  (93, { size := 1, bytes := 24, desc := .slice 96, zero := [.sl0], zagg := false }),
  (95, { size := 4, bytes := 72, desc := .struct #[{ name := "G", type := 23, offset := 0, embedded := false, tag := "", pkgPath := "", byteOffset := 0 }, { name := "S", type := 9, offset := 1, embedded := false, tag := "", pkgPath := "", byteOffset := 24 }, { name := "Utf", type := 4, offset := 2, embedded := false, tag := "", pkgPath := "", byteOffset := 40 }, { name := "T", type := 93, offset := 3, embedded := false, tag := "", pkgPath := "", byteOffset := 48 }], zero := [.sl0, .str [], .bool false, .sl0], zagg := true }),
  (54, { size := 2, bytes := 32, desc := .struct #[{ name := "L", type := 22, offset := 0, embedded := false, tag := "", pkgPath := "", byteOffset := 0 }, { name := "At", type := 3, offset := 1, embedded := false, tag := "", pkgPath := "", byteOffset := 24 }], zero := [.sl0, .int .i64 0], zagg := true }),
  (38, { size := 8, bytes := 112, desc := .struct #[{ name := "Name", type := 9, offset := 0, embedded := false, tag := "", pkgPath := "", byteOffset := 0 }, { name := "More", type := 4, offset := 1, embedded := false, tag := "", pkgPath := "", byteOffset := 16 }, { name := "Expr", type := 36, offset := 2, embedded := false, tag := "", pkgPath := "", byteOffset := 24 }], zero := [.str [], .bool false, .int .i64 0, .str [], .sl0, .int .i64 0, .int .i64 0, .sl0], zagg := true }),
  (31, { size := 1, bytes := 24, desc := .slice 38, zero := [.sl0], zagg := false })]

noncomputable def lenv (mem : Nat → Nat → Option Value) : Env where
  fns := []
  tys := env.tys ++ (stys ++ ltys)
  mem := mem

variable {mem : Nat → Nat → Option Value} {B0 : Nat}

theorem lenv_mem : (lenv mem).mem = mem := rfl

theorem tysAt_append {P : Program} : ∀ {a b : List (Nat × TyRow)}, TysAt P a → TysAt P b → TysAt P (a ++ b)
  | [], b, _, hb => hb
  | x :: a, b, ha, hb => ⟨ha.1, tysAt_append ha.2 hb⟩

theorem ltys_ok : TysAt Tryz.prog ltys := ⟨tyOk_mk (by kernel_rfl) (by kernel_rfl) (by kernel_rfl) (by kernel_rfl), tyOk_mk (by kernel_rfl) (by kernel_rfl) (by kernel_rfl) (by kernel_rfl), tyOk_mk (by kernel_rfl) (by kernel_rfl) (by kernel_rfl) (by kernel_rfl), tyOk_mk (by kernel_rfl) (by kernel_rfl) (by kernel_rfl) (by kernel_rfl), tyOk_mk (by kernel_rfl) (by kernel_rfl) (by kernel_rfl) (by kernel_rfl), tyOk_mk (by kernel_rfl) (by kernel_rfl) (by kernel_rfl) (by kernel_rfl), tyOk_mk (by kernel_rfl) (by kernel_rfl) (by kernel_rfl) (by kernel_rfl), tyOk_mk (by kernel_rfl) (by kernel_rfl) (by kernel_rfl) (by kernel_rfl), tyOk_mk (by kernel_rfl) (by kernel_rfl) (by kernel_rfl) (by kernel_rfl), tyOk_mk (by kernel_rfl) (by kernel_rfl) (by kernel_rfl) (by kernel_rfl), tyOk_mk (by kernel_rfl) (by kernel_rfl) (by kernel_rfl) (by kernel_rfl), tyOk_mk (by kernel_rfl) (by kernel_rfl) (by kernel_rfl) (by kernel_rfl), tyOk_mk (by kernel_rfl) (by kernel_rfl) (by kernel_rfl) (by kernel_rfl), tyOk_mk (by kernel_rfl) (by kernel_rfl) (by kernel_rfl) (by kernel_rfl), tyOk_mk (by kernel_rfl) (by kernel_rfl) (by kernel_rfl) (by kernel_rfl), tyOk_mk (by kernel_rfl) (by kernel_rfl) (by kernel_rfl) (by kernel_rfl), tyOk_mk (by kernel_rfl) (by kernel_rfl) (by kernel_rfl) (by kernel_rfl), tyOk_mk (by kernel_rfl) (by kernel_rfl) (by kernel_rfl) (by kernel_rfl), trivial⟩

theorem lall_held : ((env.tys ++ (stys ++ ltys)).all fun p => !isKeyT (lenv fun _ _ => none) p.1 || !Tryz.prog.stoodInHeld p.1) = true := by kernel_rfl

theorem assoc_mem {l : List (Nat × TyRow)} {t : Nat} {r : TyRow} (h : assoc l t = some r) : (t, r) ∈ l := by
  induction l with
  | nil => simp [assoc] at h
  | cons p l ih =>
    obtain ⟨j, g⟩ := p
    simp only [assoc] at h
    by_cases e : (j == t) = true
    · rw [if_pos e] at h
      simp only [Option.some.injEq] at h
      have := beq_iff_eq.1 e
      subst this; subst h; simp
    · rw [if_neg e] at h; exact List.mem_cons_of_mem _ (ih h)

theorem assoc_append {a b : List (Nat × TyRow)} {t : Nat} {r : TyRow} (h : assoc a t = some r) : assoc (a ++ b) t = some r := by
  induction a with
  | nil => simp [assoc] at h
  | cons p a ih =>
    obtain ⟨j, g⟩ := p
    simp only [assoc, List.cons_append] at h ⊢
    by_cases e : (j == t) = true
    · rw [if_pos e] at h ⊢; exact h
    · rw [if_neg e] at h ⊢; exact ih h

theorem lenv_ok : EnvOk Tryz.prog (lenv mem) where
  mixed := by kernel_rfl
  fns := fun f fn h => by simp [lenv, assoc] at h
  names := rfl
  tys := tysAt_assoc (tysAt_append env_tys (tysAt_append stys_ok ltys_ok))
  held t ht := by
    have ht' : isKeyT (lenv fun _ _ => none) t = true := ht
    have : ∃ r, (t, r) ∈ env.tys ++ (stys ++ ltys) := by
      unfold isKeyT at ht
      split at ht
      · rename_i r hr
        exact ⟨r, assoc_mem hr⟩
      · cases ht
    obtain ⟨r, hr⟩ := this
    have := List.all_eq_true.1 lall_held (t, r) hr
    simp only [ht', Bool.not_true, Bool.false_or, Bool.not_eq_true'] at this
    exact this

theorem lenv_env : ∀ e r, assoc env.tys e = some r → assoc (lenv mem).tys e = some r := fun e r h => assoc_append h

def AllIn (T : List (Nat × TyRow)) : List (Nat × TyRow) → Prop
  | [] => True
  | p :: r => assoc T p.1 = some p.2 ∧ AllIn T r

theorem allIn_mem {T : List (Nat × TyRow)} : ∀ {l : List (Nat × TyRow)}, AllIn T l → ∀ p ∈ l, assoc T p.1 = some p.2
  | [], _, p, hp => by cases hp
  | x :: l, h, p, hp => by
    rcases List.mem_cons.1 hp with rfl | hp
    · exact h.1
    · exact allIn_mem h.2 p hp

theorem stys_in : AllIn (env.tys ++ (stys ++ ltys)) stys := ⟨rfl, rfl, rfl, rfl, rfl, rfl, rfl, rfl, rfl, rfl, rfl, rfl, rfl, rfl, rfl, rfl, rfl, trivial⟩

/-- Every type of sense is one of the statements', with the same facts. -/
theorem lenv_senv {m2 : Nat → Nat → Option Value} : ∀ e r, assoc (senv m2).tys e = some r → assoc (lenv mem).tys e = some r := fun e r h => allIn_mem stys_in (e, r) (assoc_mem h)

theorem lty3 : assoc (lenv mem).tys 3 = some { size := 1, bytes := 8, desc := .int .i64, zero := [.int .i64 0], zagg := false } := rfl
theorem lty4 : assoc (lenv mem).tys 4 = some { size := 1, bytes := 1, desc := .bool, zero := [.bool false], zagg := false } := rfl
theorem lty5 : assoc (lenv mem).tys 5 = some { size := 1, bytes := 1, desc := .int .u8, zero := [.int .u8 0], zagg := false } := rfl
theorem lty9 : assoc (lenv mem).tys 9 = some { size := 1, bytes := 16, desc := .string, zero := [.str []], zagg := false } := rfl
theorem lty22 : assoc (lenv mem).tys 22 = some { size := 1, bytes := 24, desc := .slice 5, zero := [.sl0], zagg := false } := rfl
theorem lty33 : assoc (lenv mem).tys 33 = some { size := 1, bytes := 24, desc := .slice 3, zero := [.sl0], zagg := false } := rfl
theorem lty25 : assoc (lenv mem).tys 25 = some { size := 1, bytes := 24, desc := .slice 9, zero := [.sl0], zagg := false } := rfl
theorem lty34 : assoc (lenv mem).tys 34 = some { size := 1, bytes := 24, desc := .slice 36, zero := [.sl0], zagg := false } := rfl
theorem lty23 : assoc (lenv mem).tys 23 = some { size := 1, bytes := 24, desc := .slice 40, zero := [.sl0], zagg := false } := rfl
theorem lty36 : assoc (lenv mem).tys 36 = some { size := 6, bytes := 88, desc := .struct #[{ name := "Kind", type := 3, offset := 0, embedded := false, tag := "", pkgPath := "", byteOffset := 0 }, { name := "Text", type := 9, offset := 1, embedded := false, tag := "", pkgPath := "", byteOffset := 8 }, { name := "N", type := 33, offset := 2, embedded := false, tag := "", pkgPath := "", byteOffset := 24 }, { name := "Min", type := 3, offset := 3, embedded := false, tag := "", pkgPath := "", byteOffset := 48 }, { name := "Max", type := 3, offset := 4, embedded := false, tag := "", pkgPath := "", byteOffset := 56 }, { name := "Kids", type := 34, offset := 5, embedded := false, tag := "", pkgPath := "", byteOffset := 64 }], zero := [.int .i64 0, .str [], .sl0, .int .i64 0, .int .i64 0, .sl0], zagg := true } := rfl
theorem lty40 : assoc (lenv mem).tys 40 = some { size := 7, bytes := 104, desc := .struct #[{ name := "Name", type := 9, offset := 0, embedded := false, tag := "", pkgPath := "", byteOffset := 0 }, { name := "Expr", type := 36, offset := 1, embedded := false, tag := "", pkgPath := "", byteOffset := 16 }], zero := [.str [], .int .i64 0, .str [], .sl0, .int .i64 0, .int .i64 0, .sl0], zagg := true } := rfl
theorem lty98 : assoc (lenv mem).tys 98 = some { size := 1, bytes := 24, desc := .slice 4, zero := [.sl0], zagg := false } := rfl
theorem lty96 : assoc (lenv mem).tys 96 = some { size := 1, bytes := 24, desc := .slice 98, zero := [.sl0], zagg := false } := rfl
theorem lty93 : assoc (lenv mem).tys 93 = some { size := 1, bytes := 24, desc := .slice 96, zero := [.sl0], zagg := false } := rfl
theorem lty95 : assoc (lenv mem).tys 95 = some { size := 4, bytes := 72, desc := .struct #[{ name := "G", type := 23, offset := 0, embedded := false, tag := "", pkgPath := "", byteOffset := 0 }, { name := "S", type := 9, offset := 1, embedded := false, tag := "", pkgPath := "", byteOffset := 24 }, { name := "Utf", type := 4, offset := 2, embedded := false, tag := "", pkgPath := "", byteOffset := 40 }, { name := "T", type := 93, offset := 3, embedded := false, tag := "", pkgPath := "", byteOffset := 48 }], zero := [.sl0, .str [], .bool false, .sl0], zagg := true } := rfl
theorem lty54 : assoc (lenv mem).tys 54 = some { size := 2, bytes := 32, desc := .struct #[{ name := "L", type := 22, offset := 0, embedded := false, tag := "", pkgPath := "", byteOffset := 0 }, { name := "At", type := 3, offset := 1, embedded := false, tag := "", pkgPath := "", byteOffset := 24 }], zero := [.sl0, .int .i64 0], zagg := true } := rfl
theorem lty38 : assoc (lenv mem).tys 38 = some { size := 8, bytes := 112, desc := .struct #[{ name := "Name", type := 9, offset := 0, embedded := false, tag := "", pkgPath := "", byteOffset := 0 }, { name := "More", type := 4, offset := 1, embedded := false, tag := "", pkgPath := "", byteOffset := 16 }, { name := "Expr", type := 36, offset := 2, embedded := false, tag := "", pkgPath := "", byteOffset := 24 }], zero := [.str [], .bool false, .int .i64 0, .str [], .sl0, .int .i64 0, .int .i64 0, .sl0], zagg := true } := rfl
theorem lty31 : assoc (lenv mem).tys 31 = some { size := 1, bytes := 24, desc := .slice 38, zero := [.sl0], zagg := false } := rfl

/-- A list of numbers, as an object. -/
def IntIn (d : Seg) (x : AC) (l : List Int) : Prop := (x = .sl0 ∧ l = []) ∨ (l ≠ [] ∧ ∃ j, x = .sl j l.length ∧ get [d] j = some (.cells 3 (intsC l)))

theorem intIn_nil {d : Seg} {x : AC} (h : IntIn d x []) : x = .sl0 := by
  rcases h with ⟨h, _⟩ | ⟨h, _⟩
  · exact h
  · exact absurd rfl h

theorem IntIn.keep {d d' : Seg} {n : Nat} {x : AC} {l : List Int} (h : IntIn d x l) (hl : Live d n) (hk : Keeps d n d') : IntIn d' x l := by
  rcases h with h | ⟨h0, j, h1, h2⟩
  · exact .inl h
  · exact .inr ⟨h0, j, h1, (hk j (hl j _ h2).1).trans h2⟩

theorem IntRow.in_ {d : Seg} {n : Nat} {v : AV} {l : List Int} (h : IntRow d n v l) : ∃ x, v = .c x ∧ IntIn d x l := by
  rcases h with ⟨h1, rfl⟩ | ⟨h0, j, _, rfl, h2⟩
  · exact ⟨_, rfl, .inl ⟨rfl, h1⟩⟩
  · exact ⟨_, rfl, .inr ⟨h0, j, rfl, h2⟩⟩

theorem intIn_at {E : Env} {d : Seg} {al : Nat → Prop} {n : Nat} {ρ : Rho} {w : World} (h : Rep E B0 ⟨[d], al, n, ρ, w⟩) {x : AC} {l : List Int} (hx : IntIn d x l) : IntsAt w w.heap.size (conc ρ x) l := by
  rcases hx with ⟨rfl, rfl⟩ | ⟨_, j, rfl, hj⟩
  · exact .inl ⟨rfl, rfl⟩
  · refine .inr ⟨(ρ j).1, (ρ j).2, h.below hj, rfl, fun i z hi => ?_⟩
    have := h.cell hj (k := i) (x := .int .i64 z) (by simp [intsC, hi])
    exact this

theorem intRow_import {d δ : Seg} {n n0 : Nat} {v0 : AV} {l : List Int} (hl : Live d n) (h : IntRow δ 0 v0 l) : IntRow (shSeg n δ ++ d) n (shV n v0) l := by
  rcases h with ⟨h1, rfl⟩ | ⟨h1, j, _, rfl, h2⟩
  · exact .inl ⟨h1, rfl⟩
  · refine .inr ⟨h1, j + n, by omega, rfl, ?_⟩
    rw [get_sh (fun i o ho => (hl i o ho).1), h2]
    simp only [Option.map_some, shO, intsC, List.map_map]
    rfl

theorem keeps_import {d δ : Seg} {n : Nat} : Keeps d n (shSeg n δ ++ d) := fun i hi => get_sh_lt hi

/-- sense.Ends, at a grammar in the heap. -/
theorem l_ends {d : Seg} {n : Nat} {x : AC} {g : List Ru} {name s : List UInt8} {utf : Bool} {NM : List (List UInt8)} (hx : isRules [d] x g = true) (hg : g.length < 4611686018427387904) (hwf : ∀ r ∈ g, wfEx NM r.ex = true) (hname : name ∈ NM) (hs0 : s.length < 1000000000) (hbig : NM.length * (s.length + 1) ≤ 1000000000000) :
    CallsA Tryz.prog (lenv mem) B0 15 [.c x, .c (.str name), .c (.str s), .c (.bool utf)] d n fun v d' n' => ∃ l y, EndsAre g s name utf l ∧ Keeps d n d' ∧ n ≤ n' ∧ v = .c y ∧ IntIn d' y l := by
  refine (callsA_import' (R := fun v δ n0 => ∃ l, EndsAre g s name utf l ∧ IntRow δ 0 v l) fun al ρ w hrep hargs => ?_).mono ?_
  · refine ⟨senv (memOf w), [.c (lift (conc ρ x)), .c (.str name), .c (.str s), .c (.bool utf)], lenv_senv, fun b o v hv => hv, ?_, ?_, ?_⟩
    · intro y hy
      simp only [List.mem_cons, List.not_mem_nil, or_false] at hy
      rcases hy with rfl | rfl | rfl | rfl
      · exact ok_lift _ _
      · trivial
      · trivial
      · trivial
    · simp only [List.map_cons, List.map_nil, lift_conc]
      rfl
    · exact (ends_abs (utf := utf) (isRules_at hrep hx) hg hwf hname hs0 hbig).mono fun v d' n' ⟨l, h1, h2, h3⟩ _ _ _ => ⟨l, ⟨h1, h2⟩, h3⟩
  · rintro v d' n' ⟨v0, δ, n0, ⟨l, h1, h2⟩, rfl, rfl, rfl, hl, _, _⟩ _ hle _
    obtain ⟨y, hy, hin⟩ := (intRow_import (n0 := n0) hl h2).in_
    exact ⟨l, y, h1, keeps_import, hle, hy, hin⟩

theorem l_same {d : Seg} {n : Nat} {x1 x2 : AC} {l1 l2 : List Int} (h1 : IntIn d x1 l1) (h2 : IntIn d x2 l2) (hb : l1.length < 4611686018427387904) :
    CallsA Tryz.prog (lenv mem) B0 14 [.c x1, .c x2] d n fun v d' n' => Keeps d n d' ∧ v = .c (.bool (decide (l1 = l2))) := by
  refine (callsA_import' (R := fun v δ n0 => v = .c (.bool (decide (l1 = l2)))) fun al ρ w hrep hargs => ?_).mono ?_
  · refine ⟨senv (memOf w), [.c (lift (conc ρ x1)), .c (lift (conc ρ x2))], lenv_senv, fun b o v hv => hv, ?_, ?_, ?_⟩
    · intro y hy
      simp only [List.mem_cons, List.not_mem_nil, or_false] at hy
      rcases hy with rfl | rfl <;> exact ok_lift _ _
    · simp only [List.map_cons, List.map_nil, lift_conc]
      rfl
    · exact (same_abs (rawInts_of (intIn_at hrep h1)) (rawInts_of (intIn_at hrep h2)) hb [] 0).mono fun v d' n' ⟨_, h⟩ _ _ _ => h
  · rintro v d' n' ⟨v0, δ, n0, rfl, rfl, rfl, rfl, hl, _, _⟩ _ hle _
    exact ⟨keeps_import, rfl⟩

theorem l_bytes (c : Int) (utf : Bool) (d : Seg) (n : Nat) : CallsA Tryz.prog (lenv mem) B0 16 [.c (.int .i64 c), .c (.bool utf)] d n fun v d' n' => ∃ y, Keeps d n d' ∧ n ≤ n' ∧ v = .c y ∧ IntIn d' y (senseBytes c utf) := by
  refine (callsA_import (E0 := senv fun _ _ => none) (R := fun v δ n0 => IntRow δ 0 v (senseBytes c utf)) lenv_senv (fun b o v h => by cases h) (by simp [AV.ok, AC.ok]) (fun B => (senseBytes_ok c utf [] 0).mono fun v d' n' h _ _ _ => h.2.2) d n).mono ?_
  rintro v d' n' ⟨v0, δ, n0, h2, rfl, rfl, rfl, hl, _, _⟩ _ hle _
  obtain ⟨y, hy, hin⟩ := (intRow_import (n0 := n0) hl h2).in_
  exact ⟨y, keeps_import, hle, hy, hin⟩

theorem l_refBytes (c : Int) (utf : Bool) (d : Seg) (n : Nat) : CallsA Tryz.prog (lenv mem) B0 88 [.c (.int .i64 c), .c (.bool utf)] d n fun v d' n' => ∃ y, Keeps d n d' ∧ n ≤ n' ∧ v = .c y ∧ IntIn d' y (senseBytes c utf) := by
  refine (callsA_import (E0 := senv fun _ _ => none) (R := fun v δ n0 => IntRow δ 0 v (senseBytes c utf)) lenv_senv (fun b o v h => by cases h) (by simp [AV.ok, AC.ok]) (fun B => (refBytes_ok c utf [] 0).mono fun v d' n' h _ _ _ => h.2.2) d n).mono ?_
  rintro v d' n' ⟨v0, δ, n0, h2, rfl, rfl, rfl, hl, _, _⟩ _ hle _
  obtain ⟨y, hy, hin⟩ := (intRow_import (n0 := n0) hl h2).in_
  exact ⟨y, keeps_import, hle, hy, hin⟩

theorem l_read {k : Nat} {text : List UInt8} {g : List Ru} (hk : readsAs env k 6 text g = true) (d : Seg) (n : Nat) :
    CallsA Tryz.prog (lenv mem) B0 6 [.c (.str text)] d n fun v d' n' => ∃ x, v = .c x ∧ isRules [d'] x g = true ∧ n ≤ n' ∧ Keeps d n d' := reads_abs lenv_env hk d n

end Go.Proofs.YtdpielghjaehbaaGreat.Ev

/- Bytes of the memory that was there before, as an argument. -/
set_option linter.unusedVariables false
namespace Go.Proofs.YtdpielghjaehbaaGreat.Ev
open Go.RowKit

/-- Bytes that were there before. -/
def BytesIn (mem : Nat → Nat → Option Value) (x : AC) (l : List UInt8) : Prop :=
  (x = .sl0 ∧ l = []) ∨ ∃ a cap, x = .raw (.slice (some a) l.length cap) ∧ l.length ≤ cap ∧ ∀ (i : Nat) b, l[i]? = some b → a.spot = none ∧ mem a.block (a.off + i) = some (.int .u8 (b.toNat : Int))

/-- The first k of them. -/
theorem BytesIn.cut {mem : Nat → Nat → Option Value} {a : Addr} {cap k : Nat} {l : List UInt8} (hk : k < l.length) (hc : l.length ≤ cap) (h : ∀ (i : Nat) b, l[i]? = some b → a.spot = none ∧ mem a.block (a.off + i) = some (.int .u8 (b.toNat : Int))) :
    BytesIn mem (.raw (.slice (some a) k cap)) (l.take k) := by
  refine .inr ⟨a, cap, by rw [List.length_take, Nat.min_eq_left (by omega)], by rw [List.length_take]; omega, fun i b hb => ?_⟩
  rw [List.getElem?_take] at hb
  split at hb
  · exact h i b hb
  · cases hb

end Go.Proofs.YtdpielghjaehbaaGreat.Ev
