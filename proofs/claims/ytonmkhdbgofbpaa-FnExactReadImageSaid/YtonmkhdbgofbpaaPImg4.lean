/- The law of images. No condition. -/
import Derived.Test.YtonmkhdbgofbpaaPImg3
import Derived.Test.YtonmkhdbgofbpaaPMkHeld
set_option linter.unusedVariables false
set_option linter.unusedSimpArgs false
namespace Go.Ry
open Go.Proofs

theorem img_sm (s : ByteArray) : sm_Program (imgK s, (imgR s, (imgT s, (imgF s, ())))) := by
  have h := prg_small (frameS s)
  unfold imgK imgR imgT imgF
  by_cases he : imgE s = 0
  · rw [if_pos he, if_pos he, if_pos he, if_pos he]
    exact ⟨h.ks, ⟨h.rs.1, fun x hx => h.rs.2 x hx⟩, h.ts, h.sf⟩
  · rw [if_neg he, if_neg he, if_neg he, if_neg he]
    exact ⟨Nat.zero_le _, ⟨Nat.zero_le _, fun x hx => by simp at hx⟩, Nat.zero_le _, Nat.zero_le _⟩
theorem c_laws_FnExactReadImage (s : ByteArray) (hw : Ty.wf .str s) : TT n_laws_FnExactReadImage [eS s] [] (eB true) [] := by
  have hsm := img_sm s
  obtain ⟨h2, h3, h4, h5⟩ := mkP_range hsm
  have he := c_eq_Program _ hsm
  have hh := c_held_ProgramX _ hsm
  refine r_laws_FnExactReadImage s (ifP (fun _ => ⟨rfl, rfl⟩) (fun _ => ?_))
  exact ⟨_, _, _, _, _, c_spec_ReadImage s, _, _, _, _, _, c_impl_ReadImage s, _, he, ifB_f rfl (ifN_f rfl ⟨_, _, _, _, _, c_mark_ProgramX _ hsm, _, hh, ifP_f (by omega) (ifN_f rfl
    ⟨_, _, _, _, _, c_impl_ReadImage s, _, he, ifB_f rfl (ifN_f rfl ⟨_, hh, ifP_f (by omega) (ifN_f rfl ⟨rfl, rfl⟩)⟩)⟩)⟩)⟩
end Go.Ry
