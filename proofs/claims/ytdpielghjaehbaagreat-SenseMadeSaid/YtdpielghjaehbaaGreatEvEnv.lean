/- The evaluator's tables for this seat: the functions that regletlaw06.Read comes to, and their types. -/
import Derived.Test.YtdpielghjaehbaaGreatProg
import Derived.Test.YtdpielghjaehbaaGreatEvH
set_option linter.unusedSectionVars false
set_option linter.unusedSimpArgs false
set_option linter.unusedVariables false
namespace Go.Proofs.YtdpielghjaehbaaGreat.Ev

noncomputable def env : Env where
  fns := [(6, Tryz.f6),
  (12, Tryz.f12),
  (13, Tryz.f13),
  (21, Tryz.f21),
  (22, Tryz.f22),
  (23, Tryz.f23),
  (24, Tryz.f24),
  (25, Tryz.f25),
  (26, Tryz.f26),
  (27, Tryz.f27),
  (28, Tryz.f28),
  (29, Tryz.f29),
  (30, Tryz.f30),
  (42, Tryz.f42),
  (43, Tryz.f43),
  (44, Tryz.f44),
  (45, Tryz.f45),
  (46, Tryz.f46),
  (47, Tryz.f47),
  (48, Tryz.f48),
  (49, Tryz.f49),
  (50, Tryz.f50),
  (51, Tryz.f51),
  (70, Tryz.f70),
  (71, Tryz.f71),
  (72, Tryz.f72),
  (73, Tryz.f73),
  (74, Tryz.f74),
  (75, Tryz.f75),
  (76, Tryz.f76),
  (77, Tryz.f77),
  (78, Tryz.f78),
  (79, Tryz.f79),
  (80, Tryz.f80),
  (91, Tryz.f91),
  (92, Tryz.f92),
  (106, Tryz.f106),
  (107, Tryz.f107),
  (115, Tryz.f115),
  (116, Tryz.f116),
  (117, Tryz.f117),
  (119, Tryz.f119),
  (120, Tryz.f120)]
  tys := [(3, { size := 1, bytes := 8, desc := .int .i64, zero := [.int .i64 0], zagg := false }),
  (4, { size := 1, bytes := 1, desc := .bool, zero := [.bool false], zagg := false }),
  (5, { size := 1, bytes := 1, desc := .int .u8, zero := [.int .u8 0], zagg := false }),
  (9, { size := 1, bytes := 16, desc := .string, zero := [.str []], zagg := false }),
  (22, { size := 1, bytes := 24, desc := .slice 5, zero := [.sl0], zagg := false }),
  (23, { size := 1, bytes := 24, desc := .slice 40, zero := [.sl0], zagg := false }),
  (31, { size := 1, bytes := 24, desc := .slice 38, zero := [.sl0], zagg := false }),
  (33, { size := 1, bytes := 24, desc := .slice 3, zero := [.sl0], zagg := false }),
  (34, { size := 1, bytes := 24, desc := .slice 36, zero := [.sl0], zagg := false }),
  (25, { size := 1, bytes := 24, desc := .slice 9, zero := [.sl0], zagg := false }),
  (36, { size := 6, bytes := 88, desc := .struct #[{ name := "Kind", type := 3, offset := 0, embedded := false, tag := "", pkgPath := "", byteOffset := 0 }, { name := "Text", type := 9, offset := 1, embedded := false, tag := "", pkgPath := "", byteOffset := 8 }, { name := "N", type := 33, offset := 2, embedded := false, tag := "", pkgPath := "", byteOffset := 24 }, { name := "Min", type := 3, offset := 3, embedded := false, tag := "", pkgPath := "", byteOffset := 48 }, { name := "Max", type := 3, offset := 4, embedded := false, tag := "", pkgPath := "", byteOffset := 56 }, { name := "Kids", type := 34, offset := 5, embedded := false, tag := "", pkgPath := "", byteOffset := 64 }], zero := [.int .i64 0, .str [], .sl0, .int .i64 0, .int .i64 0, .sl0], zagg := true }),
  (38, { size := 8, bytes := 112, desc := .struct #[{ name := "Name", type := 9, offset := 0, embedded := false, tag := "", pkgPath := "", byteOffset := 0 }, { name := "More", type := 4, offset := 1, embedded := false, tag := "", pkgPath := "", byteOffset := 16 }, { name := "Expr", type := 36, offset := 2, embedded := false, tag := "", pkgPath := "", byteOffset := 24 }], zero := [.str [], .bool false, .int .i64 0, .str [], .sl0, .int .i64 0, .int .i64 0, .sl0], zagg := true }),
  (40, { size := 7, bytes := 104, desc := .struct #[{ name := "Name", type := 9, offset := 0, embedded := false, tag := "", pkgPath := "", byteOffset := 0 }, { name := "Expr", type := 36, offset := 1, embedded := false, tag := "", pkgPath := "", byteOffset := 16 }], zero := [.str [], .int .i64 0, .str [], .sl0, .int .i64 0, .int .i64 0, .sl0], zagg := true }),
  (43, { size := 1, bytes := 8, desc := .int .i64, zero := [.int .i64 0], zagg := false }),
  (59, { size := 3, bytes := 32, desc := .struct #[{ name := "S", type := 9, offset := 0, embedded := false, tag := "", pkgPath := "", byteOffset := 0 }, { name := "At", type := 3, offset := 1, embedded := false, tag := "", pkgPath := "", byteOffset := 16 }, { name := "E", type := 43, offset := 2, embedded := false, tag := "", pkgPath := "", byteOffset := 24 }], zero := [.str [], .int .i64 0, .int .i64 0], zagg := true })]
  mem := fun _ _ => none

def FnsAt (P : Program) : List (Nat × Func) → Prop
  | [] => True
  | p :: r => P.funcs[p.1]? = some p.2 ∧ FnsAt P r

def TysAt (P : Program) : List (Nat × TyRow) → Prop
  | [] => True
  | p :: r => TyOk P p.1 p.2 ∧ TysAt P r

theorem fnsAt_assoc {P : Program} : ∀ {l : List (Nat × Func)}, FnsAt P l → ∀ f fn, assoc l f = some fn → P.funcs[f]? = some fn
  | [], _, f, fn, h => by simp [assoc] at h
  | (j, g) :: l, hl, f, fn, h => by
    simp only [assoc] at h
    by_cases e : (j == f) = true
    · rw [if_pos e] at h
      simp only [Option.some.injEq] at h
      have := beq_iff_eq.1 e
      subst this; subst h
      exact hl.1
    · rw [if_neg e] at h; exact fnsAt_assoc hl.2 f fn h

theorem tysAt_assoc {P : Program} : ∀ {l : List (Nat × TyRow)}, TysAt P l → ∀ f fn, assoc l f = some fn → TyOk P f fn
  | [], _, f, fn, h => by simp [assoc] at h
  | (j, g) :: l, hl, f, fn, h => by
    simp only [assoc] at h
    by_cases e : (j == f) = true
    · rw [if_pos e] at h
      simp only [Option.some.injEq] at h
      have := beq_iff_eq.1 e
      subst this; subst h
      exact hl.1
    · rw [if_neg e] at h; exact tysAt_assoc hl.2 f fn h

theorem tyOk_mk {P : Program} {t : Nat} {r : TyRow} (h1 : P.underlying t = some r.desc) (h2 : (P.info? t).map (fun i => (i.size, i.bytes, i.zero.map Value.cells)) = some (r.size, r.bytes, some (concs (fun _ => (0, 0)) r.zero).toArray)) (h3 : r.zero.all AC.plain = true)
    (h4 : (P.info? t).map (fun i => i.zero.map aggVal) = some (some r.zagg)) : TyOk P t r := by
  refine ⟨h1, ?_, h3, fun i z hi hz => by rw [hi] at h4; simp only [Option.map_some, hz, Option.some.injEq] at h4; exact h4⟩
  cases hi : P.info? t with
  | none => rw [hi] at h2; cases h2
  | some i =>
    rw [hi] at h2
    simp only [Option.map_some, Option.some.injEq, Prod.mk.injEq] at h2
    obtain ⟨e1, e2, e3⟩ := h2
    cases hz : i.zero with
    | none => rw [hz] at e3; cases e3
    | some z =>
      rw [hz] at e3
      simp only [Option.map_some, Option.some.injEq] at e3
      exact ⟨i, z, rfl, e1, e2, hz, e3⟩

theorem env_fns : FnsAt Tryz.prog env.fns := ⟨Tryz.func6, Tryz.func12, Tryz.func13, Tryz.func21, Tryz.func22, Tryz.func23, Tryz.func24, Tryz.func25, Tryz.func26, Tryz.func27, Tryz.func28, Tryz.func29, Tryz.func30, Tryz.func42, Tryz.func43, Tryz.func44, Tryz.func45, Tryz.func46, Tryz.func47, Tryz.func48, Tryz.func49, Tryz.func50, Tryz.func51, Tryz.func70, Tryz.func71, Tryz.func72, Tryz.func73, Tryz.func74, Tryz.func75, Tryz.func76, Tryz.func77, Tryz.func78, Tryz.func79, Tryz.func80, Tryz.func91, Tryz.func92, Tryz.func106, Tryz.func107, Tryz.func115, Tryz.func116, Tryz.func117, Tryz.func119, Tryz.func120, trivial⟩

theorem env_tys : TysAt Tryz.prog env.tys := ⟨tyOk_mk (by kernel_rfl) (by kernel_rfl) (by kernel_rfl) (by kernel_rfl), tyOk_mk (by kernel_rfl) (by kernel_rfl) (by kernel_rfl) (by kernel_rfl), tyOk_mk (by kernel_rfl) (by kernel_rfl) (by kernel_rfl) (by kernel_rfl), tyOk_mk (by kernel_rfl) (by kernel_rfl) (by kernel_rfl) (by kernel_rfl), tyOk_mk (by kernel_rfl) (by kernel_rfl) (by kernel_rfl) (by kernel_rfl), tyOk_mk (by kernel_rfl) (by kernel_rfl) (by kernel_rfl) (by kernel_rfl), tyOk_mk (by kernel_rfl) (by kernel_rfl) (by kernel_rfl) (by kernel_rfl), tyOk_mk (by kernel_rfl) (by kernel_rfl) (by kernel_rfl) (by kernel_rfl), tyOk_mk (by kernel_rfl) (by kernel_rfl) (by kernel_rfl) (by kernel_rfl), tyOk_mk (by kernel_rfl) (by kernel_rfl) (by kernel_rfl) (by kernel_rfl), tyOk_mk (by kernel_rfl) (by kernel_rfl) (by kernel_rfl) (by kernel_rfl), tyOk_mk (by kernel_rfl) (by kernel_rfl) (by kernel_rfl) (by kernel_rfl), tyOk_mk (by kernel_rfl) (by kernel_rfl) (by kernel_rfl) (by kernel_rfl), tyOk_mk (by kernel_rfl) (by kernel_rfl) (by kernel_rfl) (by kernel_rfl), tyOk_mk (by kernel_rfl) (by kernel_rfl) (by kernel_rfl) (by kernel_rfl), trivial⟩

theorem env_names : fnsOk env = true := by kernel_rfl

theorem env_keys : (env.tys.all fun p => !isKeyT env p.1) = true := by kernel_rfl

theorem env_ok : EnvOk Tryz.prog env where
  mixed := by kernel_rfl
  fns := fnsAt_assoc env_fns
  names := env_names
  tys := tysAt_assoc env_tys
  held t ht := by
    exfalso
    have key : ∀ p ∈ env.tys, isKeyT env p.1 = false := fun p hp => by
      have := List.all_eq_true.1 env_keys p hp
      simpa using this
    unfold isKeyT at ht
    split at ht
    · rename_i r hr
      have hin : ∀ l : List (Nat × TyRow), assoc l t = some r → (t, r) ∈ l := by
        intro l
        induction l with
        | nil => intro h; simp [assoc] at h
        | cons p l ih =>
          obtain ⟨j, g⟩ := p
          intro h
          simp only [assoc] at h
          by_cases e : (j == t) = true
          · rw [if_pos e] at h
            simp only [Option.some.injEq] at h
            have := beq_iff_eq.1 e
            subst this; subst h; simp
          · rw [if_neg e] at h; exact List.mem_cons_of_mem _ (ih h)
      have := key (t, r) (hin _ hr)
      have ht2 : isKeyT env t = true := by unfold isKeyT; rw [hr]; exact ht
      rw [ht2] at this
      cases this
    · cases ht

end Go.Proofs.YtdpielghjaehbaaGreat.Ev
