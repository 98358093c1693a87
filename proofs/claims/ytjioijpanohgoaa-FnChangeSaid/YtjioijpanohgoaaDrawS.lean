/- DrawSystem: what is drawn is a system of coins. -/
import Derived.Test.YtjioijpanohgoaaDrawC
set_option linter.unusedVariables false
namespace Go.Proofs.Ytjioijpanohgoaa
open Go.RowKit
theorem drawSystem_any (A : Option Addr) (n c : Nat) (xs : List Int) (w : World) (hl : xs.length = n) (hn : n ≤ 1048576) (hr : Reads w w.heap.size 1 A n (xs.map (.int .u8))) (hx : ∀ x ∈ xs, 0 ≤ x ∧ x ≤ 255) :
    Calls Try.prog 21 #[.slice A n c] w fun e w' => ∃ v L, e = .returned v ∧ sysB L = true ∧ OwI w.heap.size w' v L ∧ Kp w w' := by
  have HR := Lib.hid hr
  have HX := Lib.hid hx
  clear hr hx
  go_enter Try.func21, Try.ntmps21
  go_wp2_with fail
  refine (l01New_any A n c xs _ hl hn HR.out HX.out).mono ?_
  rintro e w1 ⟨g, rfl, hg, hc, hk⟩
  have hz := hk.size
  have HC := Lib.hid hc
  have HK := Lib.hid hk
  clear hc hk
  go_wp2_with fail
  refine (l08Coins_any g A n c xs _ HC.out).mono ?_
  rintro e w2 ⟨v, L, rfl, hs, ho, hgr⟩
  have HO := Lib.hid (ho.weak hz)
  have HG := Lib.hid (HK.out.grown hgr (fun k e => by cases e; exact hg))
  clear ho hgr
  go_wp2_with fail
  go_ret
  exact ⟨_, L, rfl, hs, HO.out, HG.out⟩
end Go.Proofs.Ytjioijpanohgoaa
