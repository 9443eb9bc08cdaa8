/- The evaluator's types for sense. -/
import Derived.Test.YtdpielghjaehbaaGreatEvEnv
import Derived.Test.YtdpielghjaehbaaGreatEvW
set_option linter.unusedSectionVars false
set_option linter.unusedSimpArgs false
set_option linter.unusedVariables false
namespace Go.Proofs.YtdpielghjaehbaaGreat.Ev

noncomputable def stys : List (Nat × TyRow) := [(3, { size := 1, bytes := 8, desc := .int .i64, zero := [.int .i64 0], zagg := false }),
  (4, { size := 1, bytes := 1, desc := .bool, zero := [.bool false], zagg := false }),
  (5, { size := 1, bytes := 1, desc := .int .u8, zero := [.int .u8 0], zagg := false }),
  (9, { size := 1, bytes := 16, desc := .string, zero := [.str []], zagg := false }),
  (21, { size := 1, bytes := 4, desc := .int .i32, zero := [.int .i32 0], zagg := false }),
  (22, { size := 1, bytes := 24, desc := .slice 5, zero := [.sl0], zagg := false }),
  (33, { size := 1, bytes := 24, desc := .slice 3, zero := [.sl0], zagg := false }),
  (34, { size := 1, bytes := 24, desc := .slice 36, zero := [.sl0], zagg := false }),
  (23, { size := 1, bytes := 24, desc := .slice 40, zero := [.sl0], zagg := false }),
  (36, { size := 6, bytes := 88, desc := .struct #[{ name := "Kind", type := 3, offset := 0, embedded := false, tag := "", pkgPath := "", byteOffset := 0 }, { name := "Text", type := 9, offset := 1, embedded := false, tag := "", pkgPath := "", byteOffset := 8 }, { name := "N", type := 33, offset := 2, embedded := false, tag := "", pkgPath := "", byteOffset := 24 }, { name := "Min", type := 3, offset := 3, embedded := false, tag := "", pkgPath := "", byteOffset := 48 }, { name := "Max", type := 3, offset := 4, embedded := false, tag := "", pkgPath := "", byteOffset := 56 }, { name := "Kids", type := 34, offset := 5, embedded := false, tag := "", pkgPath := "", byteOffset := 64 }], zero := [.int .i64 0, .str [], .sl0, .int .i64 0, .int .i64 0, .sl0], zagg := true }),
  (40, { size := 7, bytes := 104, desc := .struct #[{ name := "Name", type := 9, offset := 0, embedded := false, tag := "", pkgPath := "", byteOffset := 0 }, { name := "Expr", type := 36, offset := 1, embedded := false, tag := "", pkgPath := "", byteOffset := 16 }], zero := [.str [], .int .i64 0, .str [], .sl0, .int .i64 0, .int .i64 0, .sl0], zagg := true }),
  (73, { size := 4, bytes := 40, desc := .struct #[{ name := "s", type := 9, offset := 0, embedded := false, tag := "", pkgPath := "reglet/sense", byteOffset := 0 }, { name := "utf", type := 4, offset := 1, embedded := false, tag := "", pkgPath := "reglet/sense", byteOffset := 16 }, { name := "known", type := 71, offset := 2, embedded := false, tag := "", pkgPath := "reglet/sense", byteOffset := 24 }, { name := "grew", type := 4, offset := 3, embedded := false, tag := "", pkgPath := "reglet/sense", byteOffset := 32 }], zero := [.str [], .bool false, .mnil, .bool false], zagg := true }),
  (71, { size := 1, bytes := 8, desc := .map 80 75, zero := [.mnil], zagg := false }),
  (75, { size := 1, bytes := 8, desc := .map 3 90, zero := [.mnil], zagg := false }),
  (80, { size := 2, bytes := 24, desc := .struct #[{ name := "name", type := 9, offset := 0, embedded := false, tag := "", pkgPath := "reglet/sense", byteOffset := 0 }, { name := "at", type := 3, offset := 1, embedded := false, tag := "", pkgPath := "reglet/sense", byteOffset := 16 }], zero := [.str [], .int .i64 0], zagg := true }),
  (77, { size := 1, bytes := 24, desc := .slice 80, zero := [.sl0], zagg := false }),
  (90, { size := 0, bytes := 0, desc := .struct #[], zero := [], zagg := true })]

noncomputable def senv (mem : Nat → Nat → Option Value) : Env where
  fns := []
  tys := stys
  mem := mem

variable {mem : Nat → Nat → Option Value}

theorem senv_mem : (senv mem).mem = mem := rfl

theorem stys_ok : TysAt Tryz.prog stys := ⟨tyOk_mk (by kernel_rfl) (by kernel_rfl) (by kernel_rfl) (by kernel_rfl), tyOk_mk (by kernel_rfl) (by kernel_rfl) (by kernel_rfl) (by kernel_rfl), tyOk_mk (by kernel_rfl) (by kernel_rfl) (by kernel_rfl) (by kernel_rfl), tyOk_mk (by kernel_rfl) (by kernel_rfl) (by kernel_rfl) (by kernel_rfl), tyOk_mk (by kernel_rfl) (by kernel_rfl) (by kernel_rfl) (by kernel_rfl), tyOk_mk (by kernel_rfl) (by kernel_rfl) (by kernel_rfl) (by kernel_rfl), tyOk_mk (by kernel_rfl) (by kernel_rfl) (by kernel_rfl) (by kernel_rfl), tyOk_mk (by kernel_rfl) (by kernel_rfl) (by kernel_rfl) (by kernel_rfl), tyOk_mk (by kernel_rfl) (by kernel_rfl) (by kernel_rfl) (by kernel_rfl), tyOk_mk (by kernel_rfl) (by kernel_rfl) (by kernel_rfl) (by kernel_rfl), tyOk_mk (by kernel_rfl) (by kernel_rfl) (by kernel_rfl) (by kernel_rfl), tyOk_mk (by kernel_rfl) (by kernel_rfl) (by kernel_rfl) (by kernel_rfl), tyOk_mk (by kernel_rfl) (by kernel_rfl) (by kernel_rfl) (by kernel_rfl), tyOk_mk (by kernel_rfl) (by kernel_rfl) (by kernel_rfl) (by kernel_rfl), tyOk_mk (by kernel_rfl) (by kernel_rfl) (by kernel_rfl) (by kernel_rfl), tyOk_mk (by kernel_rfl) (by kernel_rfl) (by kernel_rfl) (by kernel_rfl), tyOk_mk (by kernel_rfl) (by kernel_rfl) (by kernel_rfl) (by kernel_rfl), trivial⟩

theorem stys_held : (stys.all fun p => !isKeyT (senv fun _ _ => none) p.1 || !Tryz.prog.stoodInHeld p.1) = true := by kernel_rfl

theorem senv_ok : EnvOk Tryz.prog (senv mem) where
  mixed := by kernel_rfl
  fns := fun f fn h => by simp [senv, assoc] at h
  names := rfl
  tys := tysAt_assoc stys_ok
  held t ht := by
    have ht' : isKeyT (senv fun _ _ => none) t = true := ht
    have : ∃ r, (t, r) ∈ stys := by
      unfold isKeyT at ht
      split at ht
      · rename_i r hr
        refine ⟨r, ?_⟩
        have : ∀ l : List (Nat × TyRow), assoc l t = some r → (t, r) ∈ l := by
          intro l
          induction l with
          | nil => intro h; simp [assoc] at h
          | cons p l ih =>
            obtain ⟨j, g⟩ := p
            intro h
            simp only [assoc] at h
            by_cases e : (j == t) = true
            · rw [if_pos e] at h
              simp only [Option.some.injEq] at h
              have := beq_iff_eq.1 e
              subst this; subst h; simp
            · rw [if_neg e] at h; exact List.mem_cons_of_mem _ (ih h)
        exact this _ hr
      · cases ht
    obtain ⟨r, hr⟩ := this
    have := List.all_eq_true.1 stys_held (t, r) hr
    simp only [ht', Bool.not_true, Bool.false_or, Bool.not_eq_true'] at this
    exact this

theorem ty3 : assoc (senv mem).tys 3 = some { size := 1, bytes := 8, desc := .int .i64, zero := [.int .i64 0], zagg := false } := rfl
theorem ty4 : assoc (senv mem).tys 4 = some { size := 1, bytes := 1, desc := .bool, zero := [.bool false], zagg := false } := rfl
theorem ty5 : assoc (senv mem).tys 5 = some { size := 1, bytes := 1, desc := .int .u8, zero := [.int .u8 0], zagg := false } := rfl
theorem ty9 : assoc (senv mem).tys 9 = some { size := 1, bytes := 16, desc := .string, zero := [.str []], zagg := false } := rfl
theorem ty21 : assoc (senv mem).tys 21 = some { size := 1, bytes := 4, desc := .int .i32, zero := [.int .i32 0], zagg := false } := rfl
theorem ty22 : assoc (senv mem).tys 22 = some { size := 1, bytes := 24, desc := .slice 5, zero := [.sl0], zagg := false } := rfl
theorem ty33 : assoc (senv mem).tys 33 = some { size := 1, bytes := 24, desc := .slice 3, zero := [.sl0], zagg := false } := rfl
theorem ty34 : assoc (senv mem).tys 34 = some { size := 1, bytes := 24, desc := .slice 36, zero := [.sl0], zagg := false } := rfl
theorem ty23 : assoc (senv mem).tys 23 = some { size := 1, bytes := 24, desc := .slice 40, zero := [.sl0], zagg := false } := rfl
theorem ty36 : assoc (senv mem).tys 36 = some { size := 6, bytes := 88, desc := .struct #[{ name := "Kind", type := 3, offset := 0, embedded := false, tag := "", pkgPath := "", byteOffset := 0 }, { name := "Text", type := 9, offset := 1, embedded := false, tag := "", pkgPath := "", byteOffset := 8 }, { name := "N", type := 33, offset := 2, embedded := false, tag := "", pkgPath := "", byteOffset := 24 }, { name := "Min", type := 3, offset := 3, embedded := false, tag := "", pkgPath := "", byteOffset := 48 }, { name := "Max", type := 3, offset := 4, embedded := false, tag := "", pkgPath := "", byteOffset := 56 }, { name := "Kids", type := 34, offset := 5, embedded := false, tag := "", pkgPath := "", byteOffset := 64 }], zero := [.int .i64 0, .str [], .sl0, .int .i64 0, .int .i64 0, .sl0], zagg := true } := rfl
theorem ty40 : assoc (senv mem).tys 40 = some { size := 7, bytes := 104, desc := .struct #[{ name := "Name", type := 9, offset := 0, embedded := false, tag := "", pkgPath := "", byteOffset := 0 }, { name := "Expr", type := 36, offset := 1, embedded := false, tag := "", pkgPath := "", byteOffset := 16 }], zero := [.str [], .int .i64 0, .str [], .sl0, .int .i64 0, .int .i64 0, .sl0], zagg := true } := rfl
theorem ty73 : assoc (senv mem).tys 73 = some { size := 4, bytes := 40, desc := .struct #[{ name := "s", type := 9, offset := 0, embedded := false, tag := "", pkgPath := "reglet/sense", byteOffset := 0 }, { name := "utf", type := 4, offset := 1, embedded := false, tag := "", pkgPath := "reglet/sense", byteOffset := 16 }, { name := "known", type := 71, offset := 2, embedded := false, tag := "", pkgPath := "reglet/sense", byteOffset := 24 }, { name := "grew", type := 4, offset := 3, embedded := false, tag := "", pkgPath := "reglet/sense", byteOffset := 32 }], zero := [.str [], .bool false, .mnil, .bool false], zagg := true } := rfl
theorem ty71 : assoc (senv mem).tys 71 = some { size := 1, bytes := 8, desc := .map 80 75, zero := [.mnil], zagg := false } := rfl
theorem ty75 : assoc (senv mem).tys 75 = some { size := 1, bytes := 8, desc := .map 3 90, zero := [.mnil], zagg := false } := rfl
theorem ty80 : assoc (senv mem).tys 80 = some { size := 2, bytes := 24, desc := .struct #[{ name := "name", type := 9, offset := 0, embedded := false, tag := "", pkgPath := "reglet/sense", byteOffset := 0 }, { name := "at", type := 3, offset := 1, embedded := false, tag := "", pkgPath := "reglet/sense", byteOffset := 16 }], zero := [.str [], .int .i64 0], zagg := true } := rfl
theorem ty77 : assoc (senv mem).tys 77 = some { size := 1, bytes := 24, desc := .slice 80, zero := [.sl0], zagg := false } := rfl
theorem ty90 : assoc (senv mem).tys 90 = some { size := 0, bytes := 0, desc := .struct #[], zero := [], zagg := true } := rfl

end Go.Proofs.YtdpielghjaehbaaGreat.Ev
