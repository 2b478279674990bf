/- Marks: what is marked, and whether it is held. Marks of drops and of places; drops that are equal. Lists of texts: equal to themselves, marked, held. -/
import Derived.Test.YtpnlcamcnhpbhaaGreatDoorBaseA
set_option linter.unusedVariables false
set_option linter.unusedSimpArgs false
set_option maxRecDepth 100000
namespace Ev
open Go
noncomputable def mG (q : Int) : Gust := ⟨q, ⟨q + 1, q + 1 + 1⟩⟩
noncomputable def mGs : Nat → Int → List Gust
  | 0, _ => []
  | n + 1, k => mG k :: mGs n (k + 3)
theorem mGs_len : ∀ (n : Nat) (k : Int), (mGs n k).length = n
  | 0, _ => rfl
  | n + 1, k => by simp [mGs, mGs_len n]
theorem mGs_at : ∀ (n : Nat) (k : Int) (i : Nat), i < n → (mGs n k)[i]? = some (mG (k + 3 * i))
  | 0, _, _, h => by omega
  | n + 1, k, 0, _ => by simp [mGs]
  | n + 1, k, i + 1, h => by
    simp only [mGs, List.getElem?_cons_succ]
    rw [mGs_at n (k + 3) i (by omega)]
    rw [show k + 3 + 3 * (i : Int) = k + 3 * ((i + 1 : Nat) : Int) by omega]
end Ev

namespace Ev
open Go
noncomputable def mP (q : Int) : Place := ⟨q, q + 1⟩
noncomputable def mPs : Nat → Int → List Place
  | 0, _ => []
  | n + 1, k => mP k :: mPs n (k + 2)
theorem mPs_len : ∀ (n : Nat) (k : Int), (mPs n k).length = n
  | 0, _ => rfl
  | n + 1, k => by simp [mPs, mPs_len n]
theorem mPs_at : ∀ (n : Nat) (k : Int) (i : Nat), i < n → (mPs n k)[i]? = some (mP (k + 2 * i))
  | 0, _, _, h => by omega
  | n + 1, k, 0, _ => by simp [mPs]
  | n + 1, k, i + 1, h => by
    simp only [mPs, List.getElem?_cons_succ]
    rw [mPs_at n (k + 2) i (by omega)]
    rw [show k + 2 + 2 * (i : Int) = k + 2 * ((i + 1 : Nat) : Int) by omega]
end Ev

namespace Ev
open Go
end Ev
