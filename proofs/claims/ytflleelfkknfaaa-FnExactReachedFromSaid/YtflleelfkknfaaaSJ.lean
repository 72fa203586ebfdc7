/- Plain laws: what a sort leaves; the canonical grids among pairs of states. -/
import Derived.Test.YtflleelfkknfaaaSE
import Derived.Test.YtflleelfkknfaaaSB
import Derived.Test.YtflleelfkknfaaaWM
import Derived.Test.YtflleelfkknfaaaPO
import Derived.Test.YtflleelfkknfaaaPC
import Derived.Test.YtflleelfkknfaaaGB
import Derived.Sort.Statements
namespace Go.Proofs.Ytflleelfkknfaaa
/-- What a sort leaves, where the list has nothing twice and the numbers tell its members apart. -/
theorem sorted_asc {α : Type} [Inhabited α] {rk : α → Int} {cf : α → α → Int} (hcf : ∀ x y, cf x y < 0 ↔ rk x < rk y) (hinj : ∀ x y, rk x = rk y → x = y) {d d' : Array α} (hp : Go.Sort.PermIn 0 d.size d d') (hs : Go.Sort.SortedIn (Go.Proofs.ltOf cf) 0 d.size d') (hn : d.toList.Nodup) :
    Asc rk d'.toList ∧ (∀ x, x ∈ d'.toList ↔ x ∈ d.toList) ∧ d'.toList.length = d.toList.length := by
  have hsz := hp.1
  have hperm : d'.toList.Perm d.toList := by
    have := hp.2.2
    rwa [← hsz, Array.extract_size, hsz, Array.extract_size] at this
  refine ⟨asc_of_sorted ?_ (hperm.nodup_iff.2 hn) (fun x _ y _ => hinj x y), fun x => hperm.mem_iff, hperm.length_eq⟩
  refine List.pairwise_iff_getElem.2 fun i j hi hj hij => ?_
  have h := hs i j (Nat.zero_le _) hij (by simpa [hsz] using hj)
  rw [getElem!_pos d' j (by simpa using hj), getElem!_pos d' i (by simpa using hi)] at h
  unfold Go.Proofs.ltOf at h
  rw [decide_eq_false_iff_not, hcf] at h
  simpa using h
theorem cfG_rk (x y : GridB) : cfG x y < 0 ↔ rkG x < rkG y := by
  have h1 := key_bd x.2.2
  have h2 := key_bd y.2.2
  rw [cfG_lt, rkG_lt, keyG_eq x.2.2.1, keyG_eq y.2.2.1]
  omega
end Go.Proofs.Ytflleelfkknfaaa
