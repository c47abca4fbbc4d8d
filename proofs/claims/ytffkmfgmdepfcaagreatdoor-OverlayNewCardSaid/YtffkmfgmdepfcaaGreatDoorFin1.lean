/- OverlayNew's contract: whatever the shape, it returns true, and turns nothing that was there. -/
import Derived.Test.YtffkmfgmdepfcaaGreatDoorTb2
import Derived.Test.YtffkmfgmdepfcaaGreatDoorKr0
import Derived.Test.YtffkmfgmdepfcaaGreatDoorKr1
import Derived.Test.YtffkmfgmdepfcaaGreatDoorKr2
import Derived.Test.YtffkmfgmdepfcaaGreatDoorKr3
import Derived.Test.YtffkmfgmdepfcaaGreatDoorKr4
import Derived.Test.YtffkmfgmdepfcaaGreatDoorKr5
set_option linter.unusedVariables false
set_option linter.unusedSectionVars false
namespace Go.Rk.Tb
open Go.Rk
open Go.RowKit

theorem tabOk [Sym] (r : Int) (hr : (symV 2).tmod 6 = r) : TabOk Go.Proofs.Tryz.prog (tb r) where
  ty T t h := tyB_ok (Tr.allAt_get (f := tyB Go.Proofs.Tryz.prog) (g := fun k => k) tys_ok h)
  keys kt h := List.all_eq_true.1 keys_ok kt h
  fn f g h := Tr.AllP_get (f := fun f g => Go.Proofs.Tryz.prog.funcs[f]? = some g) (g := fun k => k) funs_ok h
  res := hr
  meth t nm f h v w := by
    have h' : (t, nm, f) ∈ meths := h
    simp only [meths, List.mem_cons, List.not_mem_nil, or_false, Prod.mk.injEq] at h'
    rcases h' with ⟨rfl, rfl, rfl⟩ | ⟨rfl, rfl, rfl⟩
    · exact meth0 v w
    · exact meth1 v w
theorem funsOk (r : Int) : FunsOk (tb r) := funsOk_of (tb := tb r) plans_ok

theorem of_some (n : Int) (r : Int) (hr : ((n.tmod 6 + 6)).tmod 6 = r) {k : Nat} {s : S} (hs : (run (tb r) k).call 3 [.sym 0] ⟨.lf, 0⟩ = some (.bool true, s)) (w : World) :
    Calls Go.Proofs.Tryz.prog 3 #[.int .i64 n] w fun e w' => e = .returned (.bool true) ∧ Below w.heap.size w w' := by
  letI : Sym := ⟨n⟩
  have hvs : VRs (fun _ => none) [.sym 0] [.int .i64 n] := by simp only [VRs]; exact ⟨_, _, rfl, (by simp only [VR]; rfl), rfl⟩
  refine (run_calls (P := Go.Proofs.Tryz.prog) (tabOk r hr) mixed (funsOk r) hs hvs w).mono fun e w' ⟨u, p', he, hv, hb⟩ => ?_
  simp only [VR] at hv
  subst hv
  exact ⟨he, hb⟩
theorem of_run (n : Int) (r : Int) (hr : ((n.tmod 6 + 6)).tmod 6 = r) (k : Nat) (h : isT ((run (tb r) k).call 3 [.sym 0] ⟨.lf, 0⟩) = true) (w : World) :
    Calls Go.Proofs.Tryz.prog 3 #[.int .i64 n] w fun e w' => e = .returned (.bool true) ∧ Below w.heap.size w w' :=
  let ⟨_, hs⟩ := isT_spec h
  of_some n r hr hs w

/-- OverlayNew(n) is true. -/
theorem law_all (n : Int) (w : World) : Calls Go.Proofs.Tryz.prog 3 #[.int .i64 n] w fun e w' => e = .returned (.bool true) ∧ Below w.heap.size w w' := by
  have h1 := Int.tmod_lt_of_pos n (b := 6) (by decide)
  have h2 := Int.lt_tmod_of_pos n (b := 6) (by decide)
  have key : ∀ m : Int, 0 ≤ m → m < 12 → m.tmod 6 = 0 ∨ m.tmod 6 = 1 ∨ m.tmod 6 = 2 ∨ m.tmod 6 = 3 ∨ m.tmod 6 = 4 ∨ m.tmod 6 = 5 := fun m h3 h4 => by
    have h5 := Int.tmod_lt_of_pos m (b := 6) (by decide)
    have h6 := Int.tmod_nonneg (a := m) 6 h3
    omega
  rcases key (n.tmod 6 + 6) (by omega) (by omega) with h | h | h | h | h | h
  · exact of_run n 0 h 1000000 run0 w
  · exact of_run n 1 h 1000000 run1 w
  · exact of_run n 2 h 1000000 run2 w
  · exact of_run n 3 h 1000000 run3 w
  · exact of_run n 4 h 1000000 run4 w
  · exact of_run n 5 h 1000000 run5 w
end Go.Rk.Tb
