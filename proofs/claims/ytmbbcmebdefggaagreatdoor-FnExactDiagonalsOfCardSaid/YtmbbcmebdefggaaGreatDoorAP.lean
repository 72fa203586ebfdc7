/- Rules: parts of rows; append of whatever row, or part of one, be it empty. Plain: marks laid into a row, cell by cell. -/
import Derived.Test.YtmbbcmebdefggaaGreatDoorGE
namespace Go.Proofs.YtmbbcmebdefggaaGreatDoor
open Go Go.RowKit
namespace SL
theorem sp_refl {H : Hp} : SP H H := ⟨H, .refl _, .refl _⟩
/-- The last of the items. -/
class SPR (H' H : Hp) : Prop where
  out : SP H' H
instance SPR_refl {H : Hp} : SPR H H := ⟨sp_refl⟩
instance SPR_cons {H' H : Hp} {x : It} [h : SPR H' H] : SPR H' (x :: H) := ⟨by
  obtain ⟨l, h1, h2⟩ := h.out
  exact ⟨l, h1, h2.cons x⟩⟩
theorem sp_end {H' H : Hp} [h : SPR H' H] : SP H' H := h.out
/-- The slice v from i to j: s cells an element. -/
def partV (s : Nat) (v : Value) (i j : Nat) : Value := match v with
  | .slice a _ cap => .slice (if cap = i then a else a.map (·.add (i * s))) (j - i) (cap - i)
  | v => v
/-- What may be appended: so many whole elements, read behind u. -/
def SrcOf (w : World) (u : Value) (s : Nat) (ys : List Value) : Prop :=
  ∃ m, ys.length = m * s ∧ ((u = .slice none 0 0 ∧ m = 0) ∨ ∃ ad c, u = .slice (some ad) m c ∧ ∀ j v, ys[j]? = some v → w.cell? (ad.add j) = some v)
section
variable {P : Program} {B : Nat} {w0 : World} {n : Nat} {Q : Po} {F : Fr} {H H1 H2 : Hp} {ops : Array Oper} {l : List Oper} {ty : TypeId} {pos : String} {af : Array Edge} {d : Nat} {dst : Option Tmp} {g : Option (Nat × Bool)}
theorem own_m {w : World} {v : Value} {e s m k : Nat} {xs : List Value} (hs : 0 < s) (h : w.ownsRow B e s v k xs) (hl : xs.length = m * s) : k = m := by
  have := h.1
  rw [hl] at this
  exact (Nat.eq_of_mul_eq_mul_right hs this).symm
theorem sliceBound_run {w : World} {k : IntKind} {i y : Nat} {c : BoundsCode} (h : i ≤ y) : (Instr.sliceBound (.int k (i : Int)) y c).run P w = .ok i w := by
  have h1 : (0 : Int) ≤ (i : Int) ∧ (i : Int) ≤ (y : Int) := by omega
  simp [Instr.sliceBound, asIntOf, h1]
theorem run_part {T e s by' : Nat} {z : Value} [hS : IS P T e s by' z] {w : World} {v : Value} {m i j : Nat} {xs : List Value} {lo hi : Option Value} (hs : 0 < s) (hown : w.ownsRow B e s v m xs)
    (hlo : (lo = none ∧ i = 0) ∨ ∃ k : IntKind, lo = some (.int k (i : Int))) (hhi : (hi = none ∧ j = m) ∨ ∃ k : IntKind, hi = some (.int k (j : Int))) (hij : i ≤ j) (hjm : j ≤ m) : (Instr.sliceAt T v lo hi none).run P w = .ok (partV s v i j) w := by
  have _ := hs
  obtain ⟨hu, inf, hi', hsz, -, -, -⟩ := hS.out
  have key : ∀ (a : Option Addr) (cap : Nat), v = .slice a m cap → m ≤ cap → (Instr.sliceAt T v lo hi none).run P w = .ok (partV s v i j) w := by
    rintro a cap rfl hmc
    have hz : (sizeOf e).run P w = .ok s w := by simp [sizeOf, typeInfo, hi', hsz]
    have hb : (Instr.sliceBounds true m cap lo hi none).run P w = .ok (i, j, cap) w := by
      rcases hlo with ⟨rfl, rfl⟩ | ⟨k, rfl⟩ <;> rcases hhi with ⟨rfl, rfl⟩ | ⟨k', rfl⟩ <;>
        simp [Instr.sliceBounds, sliceBound_run (P := P) (w := w) hij, sliceBound_run (P := P) (w := w) (show j ≤ cap by omega)]
    simp only [Instr.sliceAt, Instr.slice, Sem.run_bind, run_underlying hu, Result.andThen_ok, hb, hz, Sem.run_pure, partV]
  rcases hown.2 with ⟨rfl, rfl⟩ | ⟨gg, cap, cur, rfl, _, _, hnc, _⟩
  · exact key none 0 rfl (Nat.le_refl _)
  · exact key _ cap rfl hnc
theorem q_part {T e s by' : Nat} {z : Value} [hS : IS P T e s by' z] {x : Operand} {lo hi : Option Operand} {v : Value} {i j m : Nat} {xs : List Value} (hx : ev F x = some v)
    (hlo : (lo = none ∧ i = 0) ∨ ∃ (y : Operand) (k : IntKind), lo = some y ∧ ev F y = some (.int k (i : Int))) (hhi : (hi = none ∧ j = m) ∨ ∃ (y : Operand) (k : IntKind), hi = some y ∧ ev F y = some (.int k (j : Int)))
    (hm : It.row v e s xs ∈ H) (hl : xs.length = m * s) (hs : 0 < s) (hij : i ≤ j) (hjm : j ≤ m) : OpQ P B w0 n H F ⟨dst, .slice T x lo hi none, ty, pos, af, g⟩ (partV s v i j) :=
  opq_run fun a ha w hw => by
    obtain ⟨k, hown⟩ := hw.row_slice hm
    obtain rfl := own_m hs hown hl
    have h := run_part (P := P) (T := T) (lo := lo.map a.eval) (hi := hi.map a.eval) hs hown
      (by rcases hlo with ⟨rfl, rfl⟩ | ⟨y, q, rfl, hy⟩
          · exact .inl ⟨rfl, rfl⟩
          · exact .inr ⟨q, by rw [Option.map_some, ha.ev hy]⟩)
      (by rcases hhi with ⟨rfl, rfl⟩ | ⟨y, q, rfl, hy⟩
          · exact .inl ⟨rfl, rfl⟩
          · exact .inr ⟨q, by rw [Option.map_some, ha.ev hy]⟩) hij hjm
    simp only [execOp, ha.ev hx, Option.map_none]
    rw [Sem.run_bind, h]; rfl
theorem Jq_ext20 {dr : Bool} {x : Operand} {a b : Value} (hdn : Nat.blt d n = true) (hx : ev F x = some (.tuple #[a, b])) (kk : J dr P B w0 n ops Q l ((d, a) :: F) H) : J dr P B w0 n ops Q (⟨some d, .extract x 0, ty, pos, af, none⟩ :: l) F H := Jq_extract hdn hx rfl kk
theorem Jq_ext21 {dr : Bool} {x : Operand} {a b : Value} (hdn : Nat.blt d n = true) (hx : ev F x = some (.tuple #[a, b])) (kk : J dr P B w0 n ops Q l ((d, b) :: F) H) : J dr P B w0 n ops Q (⟨some d, .extract x 1, ty, pos, af, none⟩ :: l) F H := Jq_extract hdn hx rfl kk
/-- From i on. -/
theorem Jq_partL {dr : Bool} {T e s by' : Nat} {z : Value} [hS : IS P T e s by' z] {x y : Operand} {v : Value} {k : IntKind} {i m : Nat} {xs : List Value} (hdn : Nat.blt d n = true) (hx : ev F x = some v) (hy : ev F y = some (.int k (i : Int)))
    (hm : It.row v e s xs ∈ H) (hl : xs.length = m * s) (hs : 0 < s) (him : i ≤ m) (kk : J dr P B w0 n ops Q l ((d, partV s v i m) :: F) H) : J dr P B w0 n ops Q (⟨some d, .slice T x (some y) none none, ty, pos, af, none⟩ :: l) F H :=
  J_q hdn (q_part hx (.inr ⟨y, k, rfl, hy⟩) (.inl ⟨rfl, rfl⟩) hm hl hs him (Nat.le_refl _)) kk
/-- Up to j. -/
theorem Jq_partH {dr : Bool} {T e s by' : Nat} {z : Value} [hS : IS P T e s by' z] {x y : Operand} {v : Value} {k : IntKind} {j m : Nat} {xs : List Value} (hdn : Nat.blt d n = true) (hx : ev F x = some v) (hy : ev F y = some (.int k (j : Int)))
    (hm : It.row v e s xs ∈ H) (hl : xs.length = m * s) (hs : 0 < s) (hjm : j ≤ m) (kk : J dr P B w0 n ops Q l ((d, partV s v 0 j) :: F) H) : J dr P B w0 n ops Q (⟨some d, .slice T x none (some y) none, ty, pos, af, none⟩ :: l) F H :=
  J_q hdn (q_part hx (.inl ⟨rfl, rfl⟩) (.inr ⟨y, k, rfl, hy⟩) hm hl hs (Nat.zero_le _) hjm) kk
theorem Holds.src_part {w : World} (hw : Holds B w0 H w) {v : Value} {e s m i j : Nat} {xs : List Value} (hm : It.row v e s xs ∈ H) (hl : xs.length = m * s) (hs : 0 < s) (hij : i ≤ j) (hjm : j ≤ m) : SrcOf w (partV s v i j) s ((xs.drop (i * s)).take ((j - i) * s)) := by
  obtain ⟨k, hown⟩ := hw.row_slice hm
  obtain rfl := own_m hs hown hl
  have e1 : i * s ≤ k * s := Nat.mul_le_mul_right _ (by omega)
  have e2 : (j - i) * s ≤ k * s - i * s := by rw [← Nat.sub_mul]; exact Nat.mul_le_mul_right _ (by omega)
  refine ⟨j - i, by rw [List.length_take, List.length_drop, hl]; omega, ?_⟩
  rcases hown.2 with ⟨rfl, rfl⟩ | ⟨gg, cap, cur, rfl, _, _, hnc, _⟩
  · have : i = 0 := by omega
    have : j = 0 := by omega
    subst i j
    exact .inl ⟨rfl, rfl⟩
  · by_cases hc : cap = i
    · have : j = i := by omega
      subst this
      refine .inr ⟨⟨gg, 0, none⟩, cap - j, by simp [partV, hc], fun t v hv => ?_⟩
      rw [Nat.sub_self, Nat.zero_mul, List.take_zero] at hv
      cases hv
    · refine .inr ⟨⟨gg, i * s, none⟩, cap - i, by simp [partV, hc, add_eq], fun t v hv => ?_⟩
      have := hown.cells (g := gg) rfl (i * s + t) v (by
        rw [List.getElem?_take] at hv
        split at hv
        · rw [List.getElem?_drop] at hv; exact hv
        · cases hv)
      rw [add_eq] at this ⊢
      rw [← this, Nat.zero_add]
theorem Holds.src_row {w : World} (hw : Holds B w0 H w) {v : Value} {e s : Nat} {xs : List Value} (hm : It.row v e s xs ∈ H) : SrcOf w v s xs := by
  obtain ⟨k, hown⟩ := hw.row_slice hm
  refine ⟨k, hown.1, ?_⟩
  rcases hown.2 with ⟨rfl, rfl⟩ | ⟨gg, cap, cur, rfl, _⟩
  · exact .inl ⟨rfl, rfl⟩
  · exact .inr ⟨_, cap, rfl, hown.cells (g := gg) rfl⟩
theorem append_place0 {w : World} {t ty0 e : TypeId} {i : TypeInfo} {z : Value} {m m2 c2 : Nat} {v v' : Value} {w' : World} {xs ys : List Value} {ad : Addr} (ht : P.underlying t = some (.slice e)) (hi : P.info? e = some i) (hz : i.zero = some z)
    (hown : w.ownsRow B e i.size v m xs) (hlen2 : ys.length = m2 * i.size) (hcell : ∀ j c, ys[j]? = some c → w.cell? (ad.add j) = some c) (h1 : ∀ c ∈ ys, c.oneCell' = true) (hmax : m + m2 ≤ maxLen) (hsum : (m + m2) * i.bytes ≤ 140737488355328)
    (hr : (Builtin.append_ #[t, t] ty0 #[v, .slice (some ad) m2 c2]).run P w = .ok v' w') : (v'.ownBlock = v.ownBlock ∨ v'.ownBlock = some w.heap.size) ∧ w.drawn ≤ w'.drawn := by
  by_cases hne : ys = []
  · subst hne
    rcases hown.2 with ⟨rfl, rfl⟩ | ⟨gg, cap, cur, rfl, hbg, hg, hnc, hcm, hcs, htake⟩
    · by_cases h2 : m2 = 0
      · subst h2
        have hf := run_firstCells_some (P := P) w i.size 0 ad 0 c2 [] (by simp) (fun j u h => by cases h)
        have : (Builtin.append_ #[t, t] ty0 #[.slice none 0 0, .slice (some ad) 0 c2]).run P w = .ok (.slice none 0 0) w := by
          simp [Builtin.append_, run_underlying ht, sizeOf, typeInfo, hi, Builtin.lenOf, hf]
        rw [this] at hr
        injection hr with h hw
        subst h hw
        exact ⟨.inl rfl, Nat.le_refl _⟩
      · have h := run_append_nil (P := P) w t ty0 e i z ht hi hz ad m2 c2 [] hlen2 hcell (by omega) (by simp only [maxLen] at hmax; omega) (by simp only [Nat.zero_add] at hsum; omega)
        rw [hr] at h
        injection h with h hw
        subst h hw
        exact ⟨.inr rfl, Nat.le_succ _⟩
    · by_cases hroom : m + m2 ≤ cap
      · have hfit : m * i.size + ([] : List Value).length ≤ cur.size := by rw [hlen2, hcs, ← Nat.add_mul]; exact Nat.mul_le_mul_right _ hroom
        have h := run_append_room (P := P) w t ty0 e i ht hi gg m cap cur hg ad m2 c2 [] hlen2 hcell h1 hroom hfit
        rw [hr] at h
        injection h with h hw
        subst h hw
        exact ⟨.inl rfl, Nat.le_refl _⟩
      · have holds : ∀ j c, xs[j]? = some c → w.cell? ((⟨gg, 0, none⟩ : Addr).add j) = some c := hown.cells (g := gg) rfl
        have h63 : m + m2 ≤ 9223372036854775807 := by simp only [maxLen] at hmax; omega
        have h := run_append_grow (P := P) w t ty0 e i z ht hi hz ⟨gg, 0, none⟩ m cap xs hown.1 holds ad m2 c2 [] hlen2 hcell (by omega) (by omega) (growslice_fits (by omega) hsum)
        rw [hr] at h
        injection h with h hw
        subst h hw
        exact ⟨.inr rfl, Nat.le_succ _⟩
  · exact append_place ht hi hz hown hlen2 hcell h1 hne hmax hsum rfl hr
/-- append(s, x...): s a row of the call's own; x what may be appended. -/
theorem J_apG {T e : TypeId} {x y : Operand} {s by' : Nat} {z : Value} {v u : Value} {xs ys zs : List Value} {H' : Value → List Value → Hp} [hS : IS P T e s by' z] (hpos : 0 < s) (hd : Nat.blt d n = true) (hx : ev F x = some v) (hy : ev F y = some u)
    (hu : RF v H e s xs H') (hsrc : ∀ w, Holds B w0 H w → SrcOf w u s ys) (h1 : ∀ c ∈ ys, c.oneCell' = true) (hby : (xs.length + ys.length) * by' ≤ 140737488355328) (hby0 : 0 < by') (hzs : xs ++ ys = zs)
    (k : ∀ v', J false P B w0 n ops Q l ((d, v') :: F) (H' v' zs)) :
    J false P B w0 n ops Q (⟨some d, .call { callee := .builtin .append, args := #[x, y], argTypes := #[T, T] }, ty, pos, af, none⟩ :: l) F H := by
  obtain ⟨H1, H2, rfl, h2⟩ := hu.out
  clear hu
  refine J_do _ fun a w ha hw => ?_
  subst hzs
  obtain ⟨hu, i, hi, hsz, hby1, hz, hzc⟩ := hS.out
  have hut := hu
  obtain ⟨m, hown⟩ := hw.row_slice (v := v) (e := e) (sz := s) (xs := xs) (by simp)
  obtain ⟨m2, hlen2, hu2⟩ := hsrc w hw
  have hmle : m ≤ xs.length := by rw [hown.1]; exact Nat.le_mul_of_pos_right m hpos
  have hm2le : m2 ≤ ys.length := by rw [hlen2]; exact Nat.le_mul_of_pos_right m2 hpos
  have hsum : (m + m2) * by' ≤ 140737488355328 := Nat.le_trans (Nat.mul_le_mul_right _ (Nat.add_le_add hmle hm2le)) hby
  have hmax : m + m2 ≤ maxLen := by
    have : m + m2 ≤ (m + m2) * by' := Nat.le_mul_of_pos_right _ hby0
    simp only [maxLen]; omega
  rcases hu2 with ⟨rfl, rfl⟩ | ⟨ad, c2, rfl, hcell⟩
  · have hys : ys = [] := List.eq_nil_of_length_eq_zero (by simpa using hlen2)
    subst hys
    have hr := run_append_owned_none (P := P) (w := w) B T ty e i s hu hi v m xs hown
    refine ⟨v, w, _, H1 ++ .row v e s (xs ++ []) :: H2, ?_, ha.put (lt_of_blt hd) _, ?_, by rw [← h2]; exact k v⟩
    · simp only [execOp, resolve, invoke, builtin, Sem.run_bind, Sem.run_pure, Result.andThen_ok, List.map_toArray, List.map_cons, List.map_nil, ha.ev hx, ha.ev hy]
      rw [hr]; rfl
    · rw [List.append_nil]; exact hw
  · obtain ⟨v', w', hr, ho, hg, _⟩ := run_append_own (P := P) w B T ty e i z s by' hu hi hz hsz hby1 hzc hpos v m xs hown ad m2 c2 ys hlen2 hcell h1 hmax hsum hw.size
    refine ⟨v', w', _, H1 ++ .row v' e s (xs ++ ys) :: H2, ?_, ha.put (lt_of_blt hd) _, ?_, by rw [← h2]; exact k v'⟩
    · simp only [execOp, resolve, invoke, builtin, Sem.run_bind, Sem.run_pure, Result.andThen_ok, List.map_toArray, List.map_cons, List.map_nil, ha.ev hx, ha.ev hy]
      rw [hr]; rfl
    · subst hsz
      subst hby1
      obtain ⟨hpl, hdr⟩ := append_place0 hut hi hz hown hlen2 hcell h1 hmax hsum hr
      refine hw.swap hg.os hg.tape hg.output hg.size hdr (fun j hj hne' => hg.block j hj hne') ⟨_, ho⟩ (fun j hj => ?_)
      rcases hpl with h | h
      · exact .inl (by rw [show It.own (.row v e i.size xs) = v.ownBlock from rfl, ← h]; exact hj)
      · have hj' : v'.ownBlock = some j := hj
        rw [h] at hj'
        cases hj'
        exact .inr (Nat.le_refl _)
/-- A part of a row is appended. -/
theorem J_apP {T e : TypeId} {x y : Operand} {s by' : Nat} {z : Value} {v u : Value} {m i j : Nat} {xs ys zs : List Value} {H' : Value → List Value → Hp} [hS : IS P T e s by' z] (hpos : 0 < s) (hd : Nat.blt d n = true) (hx : ev F x = some v) (hy : ev F y = some (partV s u i j))
    (hu : RF v H e s xs H') (hm : It.row u e s ys ∈ H) (hl : ys.length = m * s) (hij : i ≤ j) (hjm : j ≤ m) (h1 : ∀ c ∈ ys, c.oneCell' = true) (hby : (xs.length + (j - i) * s) * by' ≤ 140737488355328) (hby0 : 0 < by') (hzs : xs ++ (ys.drop (i * s)).take ((j - i) * s) = zs)
    (k : ∀ v', J false P B w0 n ops Q l ((d, v') :: F) (H' v' zs)) :
    J false P B w0 n ops Q (⟨some d, .call { callee := .builtin .append, args := #[x, y], argTypes := #[T, T] }, ty, pos, af, none⟩ :: l) F H := by
  refine J_apG hpos hd hx hy hu (fun _ hw => hw.src_part hm hl hpos hij hjm) (fun c hc => h1 c (List.mem_of_mem_drop (List.mem_of_mem_take hc))) (Nat.le_trans (Nat.mul_le_mul_right _ (Nat.add_le_add_left ?_ _)) hby) hby0 hzs k
  rw [List.length_take]; exact Nat.min_le_left _ _
/-- A whole row is appended. -/
theorem J_apR {T e : TypeId} {x y : Operand} {s by' : Nat} {z : Value} {v u : Value} {xs ys zs : List Value} {H' : Value → List Value → Hp} [hS : IS P T e s by' z] (hpos : 0 < s) (hd : Nat.blt d n = true) (hx : ev F x = some v) (hy : ev F y = some u)
    (hu : RF v H e s xs H') (hm : It.row u e s ys ∈ H) (h1 : ∀ c ∈ ys, c.oneCell' = true) (hby : (xs.length + ys.length) * by' ≤ 140737488355328) (hby0 : 0 < by') (hzs : xs ++ ys = zs)
    (k : ∀ v', J false P B w0 n ops Q l ((d, v') :: F) (H' v' zs)) :
    J false P B w0 n ops Q (⟨some d, .call { callee := .builtin .append, args := #[x, y], argTypes := #[T, T] }, ty, pos, af, none⟩ :: l) F H :=
  J_apG hpos hd hx hy hu (fun _ hw => hw.src_row hm) h1 hby hby0 hzs k
end
theorem eT2 {P : Program} {B : Nat} {w0 : World} {n : Nat} {fn : Func} {e : Exit} {F : Fr} {H H' : Hp} {R : Value → Hp → Prop} {t u : Tmp} {v1 v2 : Value} (he : isEnd e = true) (h : fn.results = #[.tmp t, .tmp u]) (hv : look F t = some v1) (hv' : look F u = some v2) (hi : Ent [] H [] H') (hR : R (.tuple #[v1, v2]) H') : eQ P B w0 n fn R e F H :=
  eQ_mk he hR fun _ w' ha hw => ⟨results2 h ha hv hv' w', hi.holds hw⟩
section
variable {P : Program} {B : Nat} {w0 : World} {n : Nat} {Q : Po} {F : Fr} {H H' : Hp} {ops : Array Oper} {l : List Oper} {ty : TypeId} {pos : String} {af : Array Edge} {d : Nat} {fn : Func} {e : Exit}
theorem e0 {R : Value → Hp → Prop} (he : isEnd e = true) (h : fn.results = #[]) (hi : Ent [] H [] H') (hR : R (.tuple #[]) H') : eQ P B w0 n fn R e F H :=
  eQ_mk he hR fun _ w' _ hw => ⟨by simp [results, h], hi.holds hw⟩
theorem JcEc {f : Operand} {xs : List Operand} {Ts : Array TypeId} {k : FuncId} {args : List Value} {caps : Array Value} {R : Value → Hp → Prop} (hdn : Nat.blt d n = true) (hf : ev F f = some (.func (.func k) #[] caps)) (hxs : evs F xs = some args) (hk : Runs P k)
    (h : GivesE P k (args ++ caps.toList).toArray B w0 H R) (kk : ∀ v H', R v H' → J false P B w0 n ops Q l ((d, v) :: F) H') : J false P B w0 n ops Q (⟨some d, .call { callee := .value f, args := xs.toArray, argTypes := Ts }, ty, pos, af, none⟩ :: l) F H := by
  unfold J at *
  intro a w ha hw
  refine wpList_plain rfl fun K' hK => ?_
  unfold Oper.wp
  rw [run_call ha hf hxs w]
  unfold GivesE at h
  have h1 := h w hw
  refine h1.mono ?_
  rintro e w' ⟨v, H', rfl, hR, hh⟩
  exact hK _ _ (kk v H' hR _ w' (ha.put (by simpa [Nat.blt_eq] using hdn) v) hh)
/-- The same, the items in another order. -/
theorem JcEcP {H1 : Hp} {f : Operand} {xs : List Operand} {Ts : Array TypeId} {k : FuncId} {args : List Value} {caps : Array Value} {R : Value → Hp → Prop} (hdn : Nat.blt d n = true) (hf : ev F f = some (.func (.func k) #[] caps)) (hxs : evs F xs = some args) (hk : Runs P k) (hi : Ent [] H [] H1)
    (h : GivesE P k (args ++ caps.toList).toArray B w0 H1 R) (kk : ∀ v H', R v H' → J false P B w0 n ops Q l ((d, v) :: F) H') : J false P B w0 n ops Q (⟨some d, .call { callee := .value f, args := xs.toArray, argTypes := Ts }, ty, pos, af, none⟩ :: l) F H :=
  JcEc hdn hf hxs hk (by unfold GivesE at *; exact fun w hw => h w (hi.holds hw)) kk
end
end SL
end Go.Proofs.YtmbbcmebdefggaaGreatDoor
namespace Go.Proofs.YtmbbcmebdefggaaGreatDoor
open Go
/-- The first t marks. -/
def mkL (f : Nat → Value) (t : Nat) : List Value := (List.range t).map f
theorem mkL_len (f : Nat → Value) (t : Nat) : (mkL f t).length = t := by simp [mkL]
theorem mkL_rest {f : Nat → Value} {xs : List Value} {t : Nat} (ht : t ≤ xs.length) : (mkL f t ++ xs.drop t).length = xs.length := by
  rw [List.length_append, mkL_len, List.length_drop]; omega
theorem mkL_set {f : Nat → Value} {xs : List Value} {t o : Nat} {u : Value} (ho : o = t) (hu : f t = u) (ht : t < xs.length) : (mkL f t ++ xs.drop t).set o u = mkL f (t + 1) ++ xs.drop (t + 1) := by
  subst ho hu
  have e : xs.drop o = xs[o] :: xs.drop (o + 1) := List.drop_eq_getElem_cons ht
  rw [List.set_append_right _ _ (by rw [mkL_len]; exact Nat.le_refl _), mkL_len, Nat.sub_self, e, List.set_cons_zero, mkL, mkL, List.range_succ, List.map_append, List.append_assoc]
  rfl
end Go.Proofs.YtmbbcmebdefggaaGreatDoor
