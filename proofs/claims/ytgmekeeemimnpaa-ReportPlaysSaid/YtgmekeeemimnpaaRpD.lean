/- Expire and Forget at a book that a law has made. -/
import Derived.Test.YtgmekeeemimnpaaRpC
namespace Go.Proofs.Ytgmekeeemimnpaa
open Go Go.Maps Go.MapKept Go.RowKit

section
variable {w0 w : World} {b m : Nat} {win : Int} {L : List (Pr × Int)}
theorem BookB.ends {L' : List (Pr × Int)} {r : Value} {e : Ending} {w' : World} (h : BookB w0 w b m win L) (hr : BookE w b m win L' r e w') : BookRG w0 w b m win L' r e w' := by
  obtain ⟨rfl, hb, hc⟩ := hr
  exact ⟨rfl, ⟨hb, h.2.1, h.2.2.1, h.2.2.2.trans' hc (fun i hi => .inr (by subst hi; exact h.2.2.1))⟩, hc⟩
theorem BookB.expire (h : BookB w0 w b m win L) (now : Int) (hn : -9223372036854775808 ≤ now ∧ now ≤ 9223372036854775807) (hL : L.length ≤ 1000000) (L' : List (Pr × Int)) (hL' : L.filter (fun p => !expB win now p) = L') (r : Nat) (hr : r + L'.length = L.length) :
    Calls Try.prog 66 #[.pointer (some ⟨b, 0, none⟩), .int .i64 now] w (BookRG w0 w b m win L' (.int .i64 (r : Int))) := by
  subst hL'
  exact (expire_calls now hn h.1 hL r hr).mono fun e w' he => h.ends he
theorem BookB.forget (h : BookB w0 w b m win L) (id : Int) (hL : L.length ≤ 1000000) (L' : List (Pr × Int)) (hL' : L.filter (fun p => !forgB id p) = L') (r : Nat) (hr : r + L'.length = L.length) :
    Calls Try.prog 67 #[.pointer (some ⟨b, 0, none⟩), .int .i64 id] w (BookRG w0 w b m win L' (.int .i64 (r : Int))) := by
  subst hL'
  exact (forget_calls id h.1 hL r hr).mono fun e w' he => h.ends he
end
end Go.Proofs.Ytgmekeeemimnpaa
