/- Layer 2: what the functions that make rows of bits come to. -/
import Derived.Test.YtllgdcepgelahaaDoorBits
namespace Go.Proofs.YtllgdcepgelahaaDoor
open Go Go.Ev
section
variable {R : Type}
theorem quo64 (n : Nat) (h : n < 4611686018427387904) : quoW .i64 (n : Int) 64 = ((n / 64 : Nat) : Int) := by rw [quoW_nat (by omega) (by omega) (by omega)]; omega
theorem rem64 (n : Nat) : remW (n : Int) 64 = ((n % 64 : Nat) : Int) := by rw [remW_nat' (by omega)]; omega
theorem ci_len_take (ws : List Nat) : (ci ws).length = ws.length := ci_length ws

end
end Go.Proofs.YtllgdcepgelahaaDoor
