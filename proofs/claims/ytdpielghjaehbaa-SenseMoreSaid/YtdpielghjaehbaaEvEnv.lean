/- The evaluator's tables for this seat: the functions that regletlaw06.Read comes to, and their types. -/
import Derived.Test.YtdpielghjaehbaaProg
import Derived.Test.YtdpielghjaehbaaEvL
set_option linter.unusedSectionVars false
set_option linter.unusedSimpArgs false
set_option linter.unusedVariables false
namespace Go.Proofs.Ytdpielghjaehbaa.Ev

noncomputable def env : Env where
  fns := [(13, Try.f13),
  (19, Try.f19),
  (20, Try.f20),
  (31, Try.f31),
  (32, Try.f32),
  (33, Try.f33),
  (34, Try.f34),
  (35, Try.f35),
  (36, Try.f36),
  (37, Try.f37),
  (38, Try.f38),
  (39, Try.f39),
  (40, Try.f40),
  (56, Try.f56),
  (57, Try.f57),
  (58, Try.f58),
  (59, Try.f59),
  (60, Try.f60),
  (61, Try.f61),
  (62, Try.f62),
  (63, Try.f63),
  (64, Try.f64),
  (65, Try.f65),
  (72, Try.f72),
  (73, Try.f73),
  (74, Try.f74),
  (75, Try.f75),
  (76, Try.f76),
  (77, Try.f77),
  (78, Try.f78),
  (79, Try.f79),
  (80, Try.f80),
  (81, Try.f81),
  (82, Try.f82),
  (95, Try.f95),
  (96, Try.f96),
  (103, Try.f103),
  (104, Try.f104),
  (106, Try.f106),
  (107, Try.f107),
  (108, Try.f108),
  (109, Try.f109),
  (110, Try.f110)]
  tys := [(3, { size := 1, bytes := 8, desc := .int .i64, zero := [.int .i64 0], zagg := false }),
  (4, { size := 1, bytes := 1, desc := .bool, zero := [.bool false], zagg := false }),
  (5, { size := 1, bytes := 1, desc := .int .u8, zero := [.int .u8 0], zagg := false }),
  (9, { size := 1, bytes := 16, desc := .string, zero := [.str []], zagg := false }),
  (27, { size := 1, bytes := 24, desc := .slice 5, zero := [.sl0], zagg := false }),
  (29, { size := 1, bytes := 24, desc := .slice 39, zero := [.sl0], zagg := false }),
  (44, { size := 1, bytes := 24, desc := .slice 79, zero := [.sl0], zagg := false }),
  (24, { size := 1, bytes := 24, desc := .slice 3, zero := [.sl0], zagg := false }),
  (35, { size := 1, bytes := 24, desc := .slice 37, zero := [.sl0], zagg := false }),
  (33, { size := 1, bytes := 24, desc := .slice 9, zero := [.sl0], zagg := false }),
  (37, { size := 6, bytes := 88, desc := .struct #[{ name := "Kind", type := 3, offset := 0, embedded := false, tag := "", pkgPath := "", byteOffset := 0 }, { name := "Text", type := 9, offset := 1, embedded := false, tag := "", pkgPath := "", byteOffset := 8 }, { name := "N", type := 24, offset := 2, embedded := false, tag := "", pkgPath := "", byteOffset := 24 }, { name := "Min", type := 3, offset := 3, embedded := false, tag := "", pkgPath := "", byteOffset := 48 }, { name := "Max", type := 3, offset := 4, embedded := false, tag := "", pkgPath := "", byteOffset := 56 }, { name := "Kids", type := 35, offset := 5, embedded := false, tag := "", pkgPath := "", byteOffset := 64 }], zero := [.int .i64 0, .str [], .sl0, .int .i64 0, .int .i64 0, .sl0], zagg := true }),
  (79, { size := 8, bytes := 112, desc := .struct #[{ name := "Name", type := 9, offset := 0, embedded := false, tag := "", pkgPath := "", byteOffset := 0 }, { name := "More", type := 4, offset := 1, embedded := false, tag := "", pkgPath := "", byteOffset := 16 }, { name := "Expr", type := 37, offset := 2, embedded := false, tag := "", pkgPath := "", byteOffset := 24 }], zero := [.str [], .bool false, .int .i64 0, .str [], .sl0, .int .i64 0, .int .i64 0, .sl0], zagg := true }),
  (39, { size := 7, bytes := 104, desc := .struct #[{ name := "Name", type := 9, offset := 0, embedded := false, tag := "", pkgPath := "", byteOffset := 0 }, { name := "Expr", type := 37, offset := 1, embedded := false, tag := "", pkgPath := "", byteOffset := 16 }], zero := [.str [], .int .i64 0, .str [], .sl0, .int .i64 0, .int .i64 0, .sl0], zagg := true }),
  (45, { size := 1, bytes := 8, desc := .int .i64, zero := [.int .i64 0], zagg := false }),
  (75, { size := 3, bytes := 32, desc := .struct #[{ name := "S", type := 9, offset := 0, embedded := false, tag := "", pkgPath := "", byteOffset := 0 }, { name := "At", type := 3, offset := 1, embedded := false, tag := "", pkgPath := "", byteOffset := 16 }, { name := "E", type := 45, offset := 2, embedded := false, tag := "", pkgPath := "", byteOffset := 24 }], zero := [.str [], .int .i64 0, .int .i64 0], zagg := true })]
  mem := fun _ _ => none

def FnsAt (P : Program) : List (Nat × Func) → Prop
  | [] => True
  | p :: r => P.funcs[p.1]? = some p.2 ∧ FnsAt P r

def TysAt (P : Program) : List (Nat × TyRow) → Prop
  | [] => True
  | p :: r => TyOk P p.1 p.2 ∧ TysAt P r

theorem fnsAt_assoc {P : Program} : ∀ {l : List (Nat × Func)}, FnsAt P l → ∀ f fn, assoc l f = some fn → P.funcs[f]? = some fn
  | [], _, f, fn, h => by simp [assoc] at h
  | (j, g) :: l, hl, f, fn, h => by
    simp only [assoc] at h
    by_cases e : (j == f) = true
    · rw [if_pos e] at h
      simp only [Option.some.injEq] at h
      have := beq_iff_eq.1 e
      subst this; subst h
      exact hl.1
    · rw [if_neg e] at h; exact fnsAt_assoc hl.2 f fn h

theorem tysAt_assoc {P : Program} : ∀ {l : List (Nat × TyRow)}, TysAt P l → ∀ f fn, assoc l f = some fn → TyOk P f fn
  | [], _, f, fn, h => by simp [assoc] at h
  | (j, g) :: l, hl, f, fn, h => by
    simp only [assoc] at h
    by_cases e : (j == f) = true
    · rw [if_pos e] at h
      simp only [Option.some.injEq] at h
      have := beq_iff_eq.1 e
      subst this; subst h
      exact hl.1
    · rw [if_neg e] at h; exact tysAt_assoc hl.2 f fn h

theorem tyOk_mk {P : Program} {t : Nat} {r : TyRow} (h1 : P.underlying t = some r.desc) (h2 : (P.info? t).map (fun i => (i.size, i.bytes, i.zero.map Value.cells)) = some (r.size, r.bytes, some (concs (fun _ => (0, 0)) r.zero).toArray)) (h3 : r.zero.all AC.plain = true)
    (h4 : (P.info? t).map (fun i => i.zero.map aggVal) = some (some r.zagg)) : TyOk P t r := by
  refine ⟨h1, ?_, h3, fun i z hi hz => by rw [hi] at h4; simp only [Option.map_some, hz, Option.some.injEq] at h4; exact h4⟩
  cases hi : P.info? t with
  | none => rw [hi] at h2; cases h2
  | some i =>
    rw [hi] at h2
    simp only [Option.map_some, Option.some.injEq, Prod.mk.injEq] at h2
    obtain ⟨e1, e2, e3⟩ := h2
    cases hz : i.zero with
    | none => rw [hz] at e3; cases e3
    | some z =>
      rw [hz] at e3
      simp only [Option.map_some, Option.some.injEq] at e3
      exact ⟨i, z, rfl, e1, e2, hz, e3⟩

theorem env_fns : FnsAt Try.prog env.fns := ⟨Try.func13, Try.func19, Try.func20, Try.func31, Try.func32, Try.func33, Try.func34, Try.func35, Try.func36, Try.func37, Try.func38, Try.func39, Try.func40, Try.func56, Try.func57, Try.func58, Try.func59, Try.func60, Try.func61, Try.func62, Try.func63, Try.func64, Try.func65, Try.func72, Try.func73, Try.func74, Try.func75, Try.func76, Try.func77, Try.func78, Try.func79, Try.func80, Try.func81, Try.func82, Try.func95, Try.func96, Try.func103, Try.func104, Try.func106, Try.func107, Try.func108, Try.func109, Try.func110, trivial⟩

theorem env_tys : TysAt Try.prog env.tys := ⟨tyOk_mk (by kernel_rfl) (by kernel_rfl) (by kernel_rfl) (by kernel_rfl), tyOk_mk (by kernel_rfl) (by kernel_rfl) (by kernel_rfl) (by kernel_rfl), tyOk_mk (by kernel_rfl) (by kernel_rfl) (by kernel_rfl) (by kernel_rfl), tyOk_mk (by kernel_rfl) (by kernel_rfl) (by kernel_rfl) (by kernel_rfl), tyOk_mk (by kernel_rfl) (by kernel_rfl) (by kernel_rfl) (by kernel_rfl), tyOk_mk (by kernel_rfl) (by kernel_rfl) (by kernel_rfl) (by kernel_rfl), tyOk_mk (by kernel_rfl) (by kernel_rfl) (by kernel_rfl) (by kernel_rfl), tyOk_mk (by kernel_rfl) (by kernel_rfl) (by kernel_rfl) (by kernel_rfl), tyOk_mk (by kernel_rfl) (by kernel_rfl) (by kernel_rfl) (by kernel_rfl), tyOk_mk (by kernel_rfl) (by kernel_rfl) (by kernel_rfl) (by kernel_rfl), tyOk_mk (by kernel_rfl) (by kernel_rfl) (by kernel_rfl) (by kernel_rfl), tyOk_mk (by kernel_rfl) (by kernel_rfl) (by kernel_rfl) (by kernel_rfl), tyOk_mk (by kernel_rfl) (by kernel_rfl) (by kernel_rfl) (by kernel_rfl), tyOk_mk (by kernel_rfl) (by kernel_rfl) (by kernel_rfl) (by kernel_rfl), tyOk_mk (by kernel_rfl) (by kernel_rfl) (by kernel_rfl) (by kernel_rfl), trivial⟩

theorem env_names : fnsOk env = true := by kernel_rfl

theorem env_keys : (env.tys.all fun p => !isKeyT env p.1) = true := by kernel_rfl

theorem env_ok : EnvOk Try.prog env where
  mixed := by kernel_rfl
  fns := fnsAt_assoc env_fns
  names := env_names
  tys := tysAt_assoc env_tys
  held t ht := by
    exfalso
    have key : ∀ p ∈ env.tys, isKeyT env p.1 = false := fun p hp => by
      have := List.all_eq_true.1 env_keys p hp
      simpa using this
    unfold isKeyT at ht
    split at ht
    · rename_i r hr
      have hin : ∀ l : List (Nat × TyRow), assoc l t = some r → (t, r) ∈ l := by
        intro l
        induction l with
        | nil => intro h; simp [assoc] at h
        | cons p l ih =>
          obtain ⟨j, g⟩ := p
          intro h
          simp only [assoc] at h
          by_cases e : (j == t) = true
          · rw [if_pos e] at h
            simp only [Option.some.injEq] at h
            have := beq_iff_eq.1 e
            subst this; subst h; simp
          · rw [if_neg e] at h; exact List.mem_cons_of_mem _ (ih h)
      have := key (t, r) (hin _ hr)
      have ht2 : isKeyT env t = true := by unfold isKeyT; rw [hr]; exact ht
      rw [ht2] at this
      cases this
    · cases ht

end Go.Proofs.Ytdpielghjaehbaa.Ev
