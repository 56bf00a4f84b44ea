/- Loops of a few rounds, unrolled. -/
import Derived.Test.YtgpcjdmiecnphaaGreatPwS
set_option linter.unusedSimpArgs false
set_option linter.unusedVariables false
namespace Go.Pw
open Go

/-- At most n rounds more. -/
def lfn {F S : Type} (B : F → (F → S → PH → Prop) → S → PH → Prop) (f : F) (n : Nat) (s : S) (h : PH) : Prop :=
  B f (fun f' s' h' => f' = f ∧ ∃ m, ∃ hm : m < n, lfn B f m s' h') s h
termination_by n
theorem lfn_eq {F S : Type} (B : F → (F → S → PH → Prop) → S → PH → Prop) (f : F) (n : Nat) (s : S) (h : PH) : lfn B f n s h = B f (fun f' s' h' => f' = f ∧ ∃ m, m < n ∧ lfn B f m s' h') s h := by
  rw [lfn]
  congr 1
  funext f' s' h'
  simp only [exists_prop]
theorem lf_unroll {F S : Type} {B : F → (F → S → PH → Prop) → S → PH → Prop} {f : F} {s : S} {h : PH} (n : Nat) (H : lfn B f n s h) : lf B f s h :=
  lf_intro (fun n s h => lfn B f n s h) n H fun n s h hI => by rw [lfn_eq] at hI; exact hI
theorem lfn_step {F S : Type} {B : F → (F → S → PH → Prop) → S → PH → Prop} {f : F} {s : S} {h : PH} {n : Nat} (H : ∀ kn : F → S → PH → Prop, (∀ s' h', lfn B f n s' h' → kn f s' h') → B f kn s h) : lfn B f (n + 1) s h := by
  rw [lfn_eq]
  exact H _ fun s' h' hl => ⟨rfl, n, by omega, hl⟩
theorem vNew_gen {cells : Array Value} {e : TypeId} {h : PH} {K : Value → PH → Prop} (hk : ∀ b G, h b = none → Sub h G → G b = some (.cells cells e (0, 0)) → K (.pointer (some ⟨b, 0, none⟩)) G) : vNew cells e h K :=
  vNew_i fun b hb => hk b _ hb (sub_ins _ hb) (ins_eq _ _ _)
end Go.Pw
