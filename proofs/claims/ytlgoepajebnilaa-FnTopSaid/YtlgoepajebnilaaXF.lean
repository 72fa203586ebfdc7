/- Shifts keep the gradings, the self-linking numbers, the states. -/
import Derived.Test.YtlgoepajebnilaaXD
namespace Go.Proofs.Ytlgoepajebnilaa
open Go Go.RowKit SL
theorem eq_grid_self (n : Int) (X O : List Nat) (lX : X.length = 8) (lO : O.length = 8) (w : World) :
    (Op.equalIn 10000 28 (.agg (gv n X O).toArray) (.agg (gv n X O).toArray)).run Try.prog w = .ok true w := by
  rw [eq_grid n n X O X O lX lO lX lO w, decide_eq_true (by simp)]
theorem isNums_slR (n : Nat) (X O : List Nat) : isNums (slR n X O) := fun j hj => by
  have : j = 0 ∨ j = 1 := by have : (slR n X O).length = 2 := rfl
                             omega
  obtain rfl | rfl := this
  · exact ⟨_, rfl⟩
  · exact ⟨_, rfl⟩
theorem mG_rol {n v u : Nat} {X O x : List Nat} (g : okS (n : Int) X O x) (q : Bool) : mG n (rol n v u X n) (rol n v u O n) (rol n v u x n) q = mG n X O x q := by
  obtain ⟨⟨⟨h2, h8⟩, pX, pO, _⟩, px⟩ := g
  simp only [Int.toNat_natCast] at pX pO px
  unfold mG
  cases q
  · exact mX_rol (by omega) (by omega) px pO
  · exact mX_rol (by omega) (by omega) px pX
theorem slR_rol {n v u : Nat} {X O : List Nat} (g : okG (n : Int) X O) : slR n (rol n v u X n) (rol n v u O n) = slR n X O := by
  obtain ⟨⟨h2, h8⟩, pX, pO, _⟩ := g
  simp only [Int.toNat_natCast] at pX pO
  unfold slR
  rw [mX_rol (by omega) (by omega) pX pO, mX_rol (by omega) (by omega) pO pX]
theorem okS_rol {n v u : Nat} {X O x : List Nat} (g : okS (n : Int) X O x) : okS (n : Int) (rol n v u X n) (rol n v u O n) (rol n v u x n) := by
  have hn := g.1.1
  have px := g.2
  rw [Int.toNat_natCast] at px
  exact ⟨okG_rol g.1, by rw [Int.toNat_natCast]; exact isPerm_rol (by omega) (by omega) px⟩
end Go.Proofs.Ytlgoepajebnilaa
