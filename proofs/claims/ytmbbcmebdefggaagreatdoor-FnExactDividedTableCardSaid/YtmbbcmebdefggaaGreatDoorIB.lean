/- Walks: the reading of lists of numbers: equal, marked, held. Walks: rows of rows of numbers: alike, marked, held. Rows of rows, the newest first. -/
import Derived.Test.YtmbbcmebdefggaaGreatDoorDr
import Derived.Test.YtmbbcmebdefggaaGreatDoorV
import Derived.Test.YtmbbcmebdefggaaGreatDoorPG
import Derived.Test.YtmbbcmebdefggaaGreatDoorTG
import Derived.Test.YtmbbcmebdefggaaGreatDoorAP
namespace Go.Proofs.YtmbbcmebdefggaaGreatDoor
open Go Go.RowKit SL
set_option maxRecDepth 100000 in
theorem eqSame_gives {B : Nat} {w0 : World} {H : Hp} {v u : Value} {xs : List Value} (hv : It.row v 2 1 xs ∈ H) (hu : It.row u 2 1 xs ∈ H) (hx : isNums xs) (hl : xs.length < 1000000) :
    GivesM Tryz.prog 45 #[v, u] B w0 H (.bool true) H := by
  refine givesM_of (args := [v, u]) [(0, v), (1, u)] Tryz.func45 rfl Tryz.ntmps45 rfl (argsF_cons rfl (argsF_cons rfl argsF_nil)) ?_
  repeat' (first | (apply Jq_move; exact rfl; exact rfl) | (apply Jq_assign; exact rfl; exact rfl) | (apply Jq_cmp; exact rfl; exact rfl; exact rfl; exact rfl) | (apply Jq_lenR; exact rfl; exact rfl; (assumption)) | refine thenQ_normal ?_ | refine JC_seq ?_ | refine JC_region ?_ | refine J_nil ?_ | refine JC_block ?_ | refine JC_skip ?_ | (apply JC_ndec_false; exact rfl; omega))
  refine JC_loop (X := Nat) (fun k => k ≤ xs.length) (fun k => [(5, .int .i64 (k : Int)), (0, v), (1, u)]) (fun _ => H) (fun k => xs.length - k) 0 (Nat.zero_le _) ?_ ?_
  · (refine ent ?_ ?_; (repeat refine fr_cons rfl ?_); exact fr_nil; (repeat (exact List.Sublist.refl _)))
  · intro k hk
    by_cases hlt : k < xs.length
    · obtain ⟨z, hz⟩ := hx k hlt
      repeat' (first | (apply Jq_move; exact rfl; exact rfl) | (apply Jq_assign; exact rfl; exact rfl) | (apply Jq_cmp; exact rfl; exact rfl; exact rfl; exact rfl) | (apply Jq_add; exact rfl; exact rfl; exact rfl; omega) | (apply Jq_lenR; exact rfl; exact rfl; (assumption)) | (apply Jq_indexRN; exact rfl; exact rfl; exact rfl; (assumption); omega) | (apply Jq_loadR; exact rfl; exact rfl; (assumption); (exact hz)) | refine thenQ_normal ?_ | refine inBlockQ_normal ?_ | refine JC_seq ?_ | refine JC_region ?_ | (apply JC_draw mixed; kernel_rfl) | refine J_nil ?_ | refine JC_block ?_ | refine JC_skip ?_ | (apply JC_dec_true; exact rfl; omega) | (apply JC_ndec_false; exact rfl; omega))
      refine ⟨k + 1, by omega, by omega, ?_⟩
      (refine ent ?_ ?_; (repeat refine fr_cons rfl ?_); exact fr_nil; (repeat (exact List.Sublist.refl _)))
    · repeat' (first | (apply Jq_move; exact rfl; exact rfl) | (apply Jq_assign; exact rfl; exact rfl) | (apply Jq_cmp; exact rfl; exact rfl; exact rfl; exact rfl) | (apply Jq_lenR; exact rfl; exact rfl; (assumption)) | refine thenQ_normal ?_ | refine thenQ_exit ?_ | refine inBlockQ_here ?_ | refine JC_seq ?_ | refine JC_region ?_ | refine J_nil ?_ | refine JC_ret ?_ | refine JC_exit ?_ | (apply JC_dec_false; exact rfl; omega))
      refine m1 rfl rfl rfl rfl ?_
      (refine ent ?_ ?_; (repeat refine fr_cons rfl ?_); exact fr_nil; (repeat (exact List.Sublist.refl _)))
theorem set_mid (L : List Nat) (xs : List Value) (m : Nat) (h : L.length < xs.length) : (i64s L ++ xs.drop L.length).set L.length (.int .i64 (m : Int)) = i64s (L ++ [m]) ++ xs.drop (L ++ [m]).length := by
  have e : xs.drop L.length = xs[L.length] :: xs.drop (L.length + 1) := List.drop_eq_getElem_cons h
  rw [List.set_append_right _ _ (by rw [i64s_len]; exact Nat.le_refl _), i64s_len, Nat.sub_self, e, List.set_cons_zero, List.length_append]
  simp [i64s]
set_option maxRecDepth 100000 in
theorem mark_gives {B : Nat} {w0 : World} {H1 H2 : Hp} {v : Value} {xs : List Value} (k : Nat) (hk : k < 1000000000000000) (hl : xs.length < 1000000) :
    GivesM Tryz.prog 46 #[v, .int .i64 (k : Int)] B w0 (H1 ++ .row v 2 1 xs :: H2) (.int .i64 ((k + xs.length : Nat) : Int)) (H1 ++ .row v 2 1 (i64s (List.range' k xs.length)) :: H2) := by
  refine givesM_of (args := [v, .int .i64 (k : Int)]) [(0, v), (1, .int .i64 (k : Int))] Tryz.func46 rfl Tryz.ntmps46 rfl (argsF_cons rfl (argsF_cons rfl argsF_nil)) ?_
  repeat' (first | (apply Jq_assign; exact rfl; exact rfl) | refine thenQ_normal ?_ | refine JC_seq ?_ | refine JC_region ?_ | refine J_nil ?_ | refine JC_block ?_)
  refine JC_loop (X := Nat) (fun i => i ≤ xs.length) (fun i => [(5, .int .i64 (i : Int)), (0, v), (1, .int .i64 ((k + i : Nat) : Int))]) (fun i => H1 ++ .row v 2 1 (i64s (List.range' k i) ++ xs.drop i) :: H2) (fun i => xs.length - i) 0 (Nat.zero_le _) ?_ ?_
  · (refine ent ?_ ?_; (repeat refine fr_cons rfl ?_); exact fr_nil; (repeat (exact List.Sublist.refl _)))
  · intro i hi
    have hm : It.row v 2 1 (i64s (List.range' k i) ++ xs.drop i) ∈ H1 ++ .row v 2 1 (i64s (List.range' k i) ++ xs.drop i) :: H2 := List.mem_append_right _ m0
    have lx : (i64s (List.range' k i) ++ xs.drop i).length = xs.length := by simp [i64s]; omega
    by_cases hlt : i < xs.length
    · have es : (i64s (List.range' k i) ++ xs.drop i).set i (.int .i64 ((k + i : Nat) : Int)) = i64s (List.range' k (i + 1)) ++ xs.drop (i + 1) := by
        have := set_mid (List.range' k i) xs (k + i) (by simpa using hlt)
        simp only [List.length_range', List.length_append, List.length_singleton] at this
        rw [this, List.range'_concat, Nat.one_mul]
      repeat' (first | (apply Jq_move; exact rfl; exact rfl) | (apply Jq_assign; exact rfl; exact rfl) | (apply Jq_cmp; exact rfl; exact rfl; exact rfl; exact rfl) | (apply Jq_add; exact rfl; exact rfl; exact rfl; omega) | (apply Jq_lenR; exact rfl; exact rfl; (assumption)) | (apply Jq_indexRN; exact rfl; exact rfl; exact rfl; (assumption); omega) | refine thenQ_normal ?_ | refine inBlockQ_normal ?_ | refine JC_seq ?_ | refine JC_region ?_ | refine J_nil ?_ | refine JC_block ?_ | refine JC_skip ?_ | (apply JC_dec_true; exact rfl; omega) | (apply J_storeR; exact rfl; exact rfl; exact rfl; omega; exact es))
      refine ⟨i + 1, by omega, by omega, ?_⟩
      (refine ent ?_ ?_; (repeat refine fr_cons rfl ?_); exact fr_nil; (repeat (exact List.Sublist.refl _)))
    · obtain rfl : i = xs.length := by omega
      repeat' (first | (apply Jq_move; exact rfl; exact rfl) | (apply Jq_assign; exact rfl; exact rfl) | (apply Jq_cmp; exact rfl; exact rfl; exact rfl; exact rfl) | (apply Jq_lenR; exact rfl; exact rfl; (assumption)) | refine thenQ_normal ?_ | refine thenQ_exit ?_ | refine inBlockQ_here ?_ | refine JC_seq ?_ | refine JC_region ?_ | refine J_nil ?_ | refine JC_ret ?_ | refine JC_exit ?_ | (apply JC_dec_false; exact rfl; omega))
      rw [List.drop_length, List.append_nil]
      refine m1 rfl rfl rfl rfl ?_
      (refine ent ?_ ?_; (repeat refine fr_cons rfl ?_); exact fr_nil; (repeat (exact List.Sublist.refl _)))
set_option maxRecDepth 100000 in
theorem held_gives {B : Nat} {w0 : World} {H : Hp} {v : Value} (k m : Nat) (hv : It.row v 2 1 (i64s (List.range' k m)) ∈ H) (hk : k < 1000000000000000) (hl : m < 1000000000000000) :
    GivesM Tryz.prog 47 #[v, .int .i64 (k : Int)] B w0 H (.int .i64 ((k + m : Nat) : Int)) H := by
  have lx : (i64s (List.range' k m)).length = m := by simp [i64s]
  refine givesM_of (args := [v, .int .i64 (k : Int)]) [(0, v), (1, .int .i64 (k : Int))] Tryz.func47 rfl Tryz.ntmps47 rfl (argsF_cons rfl (argsF_cons rfl argsF_nil)) ?_
  repeat' (first | (apply Jq_assign; exact rfl; exact rfl) | refine thenQ_normal ?_ | refine JC_seq ?_ | refine JC_region ?_ | refine J_nil ?_ | refine JC_block ?_)
  refine JC_loop (X := Nat) (fun i => i ≤ m) (fun i => [(5, .int .i64 (i : Int)), (0, v), (1, .int .i64 ((k + i : Nat) : Int))]) (fun _ => H) (fun i => m - i) 0 (Nat.zero_le _) ?_ ?_
  · (refine ent ?_ ?_; (repeat refine fr_cons rfl ?_); exact fr_nil; (repeat (exact List.Sublist.refl _)))
  · intro i hi
    by_cases hlt : i < m
    · have hz : (i64s (List.range' k m))[i]? = some (.int .i64 ((k + i : Nat) : Int)) := by
        rw [i64s_get (by simpa using hlt)]
        simp [List.getD_eq_getElem?_getD, hlt]
      repeat' (first | (apply Jq_move; exact rfl; exact rfl) | (apply Jq_assign; exact rfl; exact rfl) | (apply Jq_cmp; exact rfl; exact rfl; exact rfl; exact rfl) | (apply Jq_add; exact rfl; exact rfl; exact rfl; omega) | (apply Jq_lenR; exact rfl; exact rfl; (assumption)) | (apply Jq_indexRN; exact rfl; exact rfl; exact rfl; (assumption); omega) | (apply Jq_loadR; exact rfl; exact rfl; (assumption); (exact hz)) | refine thenQ_normal ?_ | refine inBlockQ_normal ?_ | refine JC_seq ?_ | refine JC_region ?_ | refine J_nil ?_ | refine JC_block ?_ | refine JC_skip ?_ | (apply JC_dec_true; exact rfl; omega) | (apply JC_ndec_false; exact rfl; omega))
      refine ⟨i + 1, by omega, by omega, ?_⟩
      (refine ent ?_ ?_; (repeat refine fr_cons rfl ?_); exact fr_nil; (repeat (exact List.Sublist.refl _)))
    · obtain rfl : i = m := by omega
      repeat' (first | (apply Jq_move; exact rfl; exact rfl) | (apply Jq_assign; exact rfl; exact rfl) | (apply Jq_cmp; exact rfl; exact rfl; exact rfl; exact rfl) | (apply Jq_lenR; exact rfl; exact rfl; (assumption)) | refine thenQ_normal ?_ | refine thenQ_exit ?_ | refine inBlockQ_here ?_ | refine JC_seq ?_ | refine JC_region ?_ | refine J_nil ?_ | refine JC_ret ?_ | refine JC_exit ?_ | (apply JC_dec_false; exact rfl; omega))
      refine m1 rfl rfl rfl rfl ?_
      (refine ent ?_ ?_; (repeat refine fr_cons rfl ?_); exact fr_nil; (repeat (exact List.Sublist.refl _)))
end Go.Proofs.YtmbbcmebdefggaaGreatDoor
namespace Go.Proofs.YtmbbcmebdefggaaGreatDoor
open Go Go.RowKit SL
/-- Rows of numbers behind slices. -/
def rwI (L : List (Value × List Value)) : Hp := L.map fun p => It.row p.1 2 1 p.2
def tot (L : List (Value × List Value)) : Nat := (L.map fun p => p.2.length).sum
/-- The rows marked with numbers from k. -/
def mkR : Nat → List (Value × List Value) → List (Value × List Value)
  | _, [] => []
  | k, p :: L => (p.1, i64s (List.range' k p.2.length)) :: mkR (k + p.2.length) L
theorem tot_snoc (L : List (Value × List Value)) (p : Value × List Value) : tot (L ++ [p]) = tot L + p.2.length := by simp [tot]
theorem mkR_snoc : ∀ (L : List (Value × List Value)) (k : Nat) (p : Value × List Value), mkR k (L ++ [p]) = mkR k L ++ [(p.1, i64s (List.range' (k + tot L) p.2.length))]
  | [], k, p => by simp [mkR, tot]
  | q :: L, k, p => by
    rw [List.cons_append, mkR, mkR_snoc L, mkR, List.cons_append]
    have : k + q.2.length + tot L = k + tot (q :: L) := by simp [tot]; omega
    rw [this]
theorem tot_take {L : List (Value × List Value)} {i : Nat} {p : Value × List Value} (h : L[i]? = some p) : tot (L.take (i + 1)) = tot (L.take i) + p.2.length := by
  rw [List.take_add_one, h, Option.toList_some, tot_snoc]
theorem mkR_take {L : List (Value × List Value)} {i k : Nat} {p : Value × List Value} (h : L[i]? = some p) : mkR k (L.take (i + 1)) = mkR k (L.take i) ++ [(p.1, i64s (List.range' (k + tot (L.take i)) p.2.length))] := by
  rw [List.take_add_one, h, Option.toList_some, mkR_snoc]
theorem tot_le : ∀ (L : List (Value × List Value)) (i : Nat), tot (L.take i) ≤ tot L
  | [], i => by simp
  | p :: L, 0 => by simp [tot]
  | p :: L, i + 1 => by
    have := tot_le L i
    rw [List.take_succ_cons]
    simp only [tot, List.map_cons, List.sum_cons] at *
    omega
theorem mkR_mem : ∀ {L : List (Value × List Value)} {k i : Nat} {p : Value × List Value}, L[i]? = some p → (p.1, i64s (List.range' (k + tot (L.take i)) p.2.length)) ∈ mkR k L
  | [], k, i, p, h => by simp at h
  | q :: L, k, 0, p, h => by
    simp only [List.getElem?_cons_zero, Option.some.injEq] at h
    subst h
    rw [mkR]; exact List.mem_cons_self
  | q :: L, k, i + 1, p, h => by
    rw [List.getElem?_cons_succ] at h
    have := mkR_mem (k := k + q.2.length) h
    rw [mkR, List.take_succ_cons]
    have e : k + tot (q :: L.take i) = k + q.2.length + tot (L.take i) := by simp [tot]; omega
    rw [e]
    exact List.mem_cons_of_mem _ this
set_option maxRecDepth 100000 in
theorem eqSS_gives {B : Nat} {w0 : World} {H : Hp} {va vb : Value} (La Lb : List (Value × List Value)) (hva : It.row va 50 1 (La.map (·.1)) ∈ H) (hvb : It.row vb 50 1 (Lb.map (·.1)) ∈ H) (ha : ∀ x ∈ rwI La, x ∈ H) (hb : ∀ x ∈ rwI Lb, x ∈ H)
    (he : La.map (·.2) = Lb.map (·.2)) (hn : ∀ p ∈ La, isNums p.2 ∧ p.2.length < 1000000) (hl : La.length < 1000000) :
    GivesM Tryz.prog 14 #[va, vb] B w0 H (.bool true) H := by
  have iva : RB va H 50 1 (La.map (·.1)) := ⟨hva⟩
  have ivb : RB vb H 50 1 (Lb.map (·.1)) := ⟨hvb⟩
  have l1 : (La.map (·.1)).length = La.length := List.length_map _
  have l2 : (Lb.map (·.1)).length = Lb.length := List.length_map _
  have l3 : La.length = Lb.length := by have := congrArg List.length he; rwa [List.length_map, List.length_map] at this
  refine givesM_of (args := [va, vb]) [(0, va), (1, vb)] Tryz.func14 rfl Tryz.ntmps14 rfl (argsF_cons rfl (argsF_cons rfl argsF_nil)) ?_
  repeat' (first | (apply Jq_move; exact rfl; exact rfl) | (apply Jq_assign; exact rfl; exact rfl) | (apply Jq_cmp; exact rfl; exact rfl; exact rfl; exact rfl) | (apply Jq_lenR; exact rfl; exact rfl; (exact rb)) | refine thenQ_normal ?_ | refine JC_seq ?_ | refine JC_region ?_ | refine J_nil ?_ | refine JC_block ?_ | refine JC_skip ?_ | (apply JC_ndec_false; exact rfl; omega))
  refine JC_loop (X := Nat) (fun k => k ≤ La.length) (fun k => [(5, .int .i64 (k : Int)), (0, va), (1, vb)]) (fun _ => H) (fun k => La.length - k) 0 (Nat.zero_le _) ?_ ?_
  · (refine ent ?_ ?_; (repeat refine fr_cons rfl ?_); exact fr_nil; (repeat (exact List.Sublist.refl _)))
  · intro k hk
    by_cases hlt : k < La.length
    · obtain ⟨p, hp⟩ : ∃ p, La[k]? = some p := ⟨_, List.getElem?_eq_getElem hlt⟩
      obtain ⟨q, hq⟩ : ∃ q, Lb[k]? = some q := ⟨_, List.getElem?_eq_getElem (by omega)⟩
      have e : p.2 = q.2 := by
        have := congrArg (·[k]?) he
        simp only [List.getElem?_map, hp, hq, Option.map_some, Option.some.injEq] at this
        exact this
      have g1 : (La.map (·.1))[k]? = some p.1 := by rw [List.getElem?_map, hp]; rfl
      have g2 : (Lb.map (·.1))[k]? = some q.1 := by rw [List.getElem?_map, hq]; rfl
      have hpm := List.mem_of_getElem? hp
      have hqm := List.mem_of_getElem? hq
      have m1 := ha _ (List.mem_map.2 ⟨p, hpm, rfl⟩)
      have m2 := hb _ (List.mem_map.2 ⟨q, hqm, rfl⟩)
      rw [← e] at m2
      repeat' (first | (apply Jq_move; exact rfl; exact rfl) | (apply Jq_assign; exact rfl; exact rfl) | (apply Jq_cmp; exact rfl; exact rfl; exact rfl; exact rfl) | (apply Jq_add; exact rfl; exact rfl; exact rfl; omega) | (apply Jq_not; exact rfl; exact rfl) | (apply JqM; exact rfl; exact rfl; exact rfl; infer_instance; (exact eqSame_gives m1 m2 (hn p hpm).1 (hn p hpm).2)) | (apply Jq_lenR; exact rfl; exact rfl; (exact rb)) | (apply Jq_indexRN; exact rfl; exact rfl; exact rfl; (exact rb); omega) | (apply Jq_loadR; exact rfl; exact rfl; (exact rb); (first | exact g1 | exact g2)) | refine thenQ_normal ?_ | refine inBlockQ_normal ?_ | refine JC_seq ?_ | refine JC_region ?_ | (apply JC_draw mixed; kernel_rfl) | refine J_nil ?_ | refine JC_block ?_ | refine JC_skip ?_ | (apply JC_if_false; exact rfl) | (apply JC_dec_true; exact rfl; omega))
      refine ⟨k + 1, by omega, by omega, ?_⟩
      (refine ent ?_ ?_; (repeat refine fr_cons rfl ?_); exact fr_nil; (repeat (exact List.Sublist.refl _)))
    · obtain rfl : k = La.length := by omega
      repeat' (first | (apply Jq_move; exact rfl; exact rfl) | (apply Jq_assign; exact rfl; exact rfl) | (apply Jq_cmp; exact rfl; exact rfl; exact rfl; exact rfl) | (apply Jq_lenR; exact rfl; exact rfl; (exact rb)) | refine thenQ_normal ?_ | refine thenQ_exit ?_ | refine inBlockQ_here ?_ | refine JC_seq ?_ | refine JC_region ?_ | refine J_nil ?_ | refine JC_ret ?_ | refine JC_exit ?_ | (apply JC_dec_false; exact rfl; omega))
      refine SL.m1 rfl rfl rfl rfl ?_
      (refine ent ?_ ?_; (repeat refine fr_cons rfl ?_); exact fr_nil; (repeat (exact List.Sublist.refl _)))
set_option maxRecDepth 100000 in
theorem heldSS_gives {B : Nat} {w0 : World} {H : Hp} {v : Value} (k : Nat) (L : List (Value × List Value)) (hv : It.row v 50 1 (L.map (·.1)) ∈ H) (hm : ∀ x ∈ rwI (mkR k L), x ∈ H) (hk : k + tot L < 1000000000000000) (hl : L.length < 1000000) :
    GivesM Tryz.prog 16 #[v, .int .i64 (k : Int)] B w0 H (.int .i64 ((k + tot L : Nat) : Int)) H := by
  have iv : RB v H 50 1 (L.map (·.1)) := ⟨hv⟩
  have l1 : (L.map (·.1)).length = L.length := List.length_map _
  refine givesM_of (args := [v, .int .i64 (k : Int)]) [(0, v), (1, .int .i64 (k : Int))] Tryz.func16 rfl Tryz.ntmps16 rfl (argsF_cons rfl (argsF_cons rfl argsF_nil)) ?_
  repeat' (first | (apply Jq_assign; exact rfl; exact rfl) | refine thenQ_normal ?_ | refine JC_seq ?_ | refine JC_region ?_ | refine J_nil ?_ | refine JC_block ?_)
  refine JC_loop (X := Nat) (fun i => i ≤ L.length) (fun i => [(5, .int .i64 (i : Int)), (0, v), (1, .int .i64 ((k + tot (L.take i) : Nat) : Int))]) (fun _ => H) (fun i => L.length - i) 0 (Nat.zero_le _) ?_ ?_
  · (refine ent ?_ ?_; (repeat refine fr_cons rfl ?_); exact fr_nil; (repeat (exact List.Sublist.refl _)))
  · intro i hi
    by_cases hlt : i < L.length
    · obtain ⟨p, hp⟩ : ∃ p, L[i]? = some p := ⟨_, List.getElem?_eq_getElem hlt⟩
      have g1 : (L.map (·.1))[i]? = some p.1 := by rw [List.getElem?_map, hp]; rfl
      have m1 := hm _ (List.mem_map.2 ⟨_, mkR_mem (k := k) hp, rfl⟩)
      have t1 := tot_take hp
      have t2 := tot_le L (i + 1)
      have e : k + tot (L.take (i + 1)) = k + tot (L.take i) + p.2.length := by omega
      repeat' (first | (apply Jq_move; exact rfl; exact rfl) | (apply Jq_assign; exact rfl; exact rfl) | (apply Jq_cmp; exact rfl; exact rfl; exact rfl; exact rfl) | (apply Jq_add; exact rfl; exact rfl; exact rfl; omega) | (apply JqM; exact rfl; exact rfl; exact rfl; infer_instance; (exact held_gives (k + tot (L.take i)) p.2.length m1 (by omega) (by omega))) | (apply Jq_lenR; exact rfl; exact rfl; (exact rb)) | (apply Jq_indexRN; exact rfl; exact rfl; exact rfl; (exact rb); omega) | (apply Jq_loadR; exact rfl; exact rfl; (exact rb); (exact g1)) | refine thenQ_normal ?_ | refine inBlockQ_normal ?_ | refine JC_seq ?_ | refine JC_region ?_ | refine J_nil ?_ | refine JC_block ?_ | refine JC_skip ?_ | (apply JC_if_false; exact rfl) | (apply JC_dec_true; exact rfl; omega))
      refine ⟨i + 1, by omega, by omega, ?_⟩
      rw [e]
      (refine ent ?_ ?_; (repeat refine fr_cons rfl ?_); exact fr_nil; (repeat (exact List.Sublist.refl _)))
    · obtain rfl : i = L.length := by omega
      rw [List.take_length]
      repeat' (first | (apply Jq_move; exact rfl; exact rfl) | (apply Jq_assign; exact rfl; exact rfl) | (apply Jq_cmp; exact rfl; exact rfl; exact rfl; exact rfl) | (apply Jq_lenR; exact rfl; exact rfl; (exact rb)) | refine thenQ_normal ?_ | refine thenQ_exit ?_ | refine inBlockQ_here ?_ | refine JC_seq ?_ | refine JC_region ?_ | refine J_nil ?_ | refine JC_ret ?_ | refine JC_exit ?_ | (apply JC_dec_false; exact rfl; omega))
      refine SL.m1 rfl rfl rfl rfl ?_
      (refine ent ?_ ?_; (repeat refine fr_cons rfl ?_); exact fr_nil; (repeat (exact List.Sublist.refl _)))
theorem rwI_app (A C : List (Value × List Value)) : rwI (A ++ C) = rwI A ++ rwI C := List.map_append
set_option maxRecDepth 100000 in
theorem markSS_gives {B : Nat} {w0 : World} {H2 : Hp} {v : Value} (k : Nat) (L : List (Value × List Value)) (hk : k + tot L < 1000000000000000) (hl : L.length < 1000000) (hp2 : ∀ p ∈ L, p.2.length < 1000000) :
    GivesM Tryz.prog 15 #[v, .int .i64 (k : Int)] B w0 (.row v 50 1 (L.map (·.1)) :: (rwI L ++ H2)) (.int .i64 ((k + tot L : Nat) : Int)) (.row v 50 1 (L.map (·.1)) :: (rwI (mkR k L) ++ H2)) := by
  have l1 : (L.map (·.1)).length = L.length := List.length_map _
  refine givesM_of (args := [v, .int .i64 (k : Int)]) [(0, v), (1, .int .i64 (k : Int))] Tryz.func15 rfl Tryz.ntmps15 rfl (argsF_cons rfl (argsF_cons rfl argsF_nil)) ?_
  repeat' (first | (apply Jq_assign; exact rfl; exact rfl) | refine thenQ_normal ?_ | refine JC_seq ?_ | refine JC_region ?_ | refine J_nil ?_ | refine JC_block ?_)
  refine JC_loop (X := Nat) (fun i => i ≤ L.length) (fun i => [(5, .int .i64 (i : Int)), (0, v), (1, .int .i64 ((k + tot (L.take i) : Nat) : Int))]) (fun i => .row v 50 1 (L.map (·.1)) :: (rwI (mkR k (L.take i)) ++ (rwI (L.drop i) ++ H2))) (fun i => L.length - i) 0 (Nat.zero_le _) ?_ ?_
  · (refine ent ?_ ?_; (repeat refine fr_cons rfl ?_); exact fr_nil; (repeat (exact List.Sublist.refl _)))
  · intro i hi
    by_cases hlt : i < L.length
    · obtain ⟨p, hp⟩ : ∃ p, L[i]? = some p := ⟨_, List.getElem?_eq_getElem hlt⟩
      have g1 : (L.map (·.1))[i]? = some p.1 := by rw [List.getElem?_map, hp]; rfl
      have t1 := tot_take hp
      have t2 := tot_le L (i + 1)
      have e : k + tot (L.take (i + 1)) = k + tot (L.take i) + p.2.length := by omega
      have hpl := hp2 p (List.mem_of_getElem? hp)
      have ed : L.drop i = p :: L.drop (i + 1) := by rw [List.drop_eq_getElem_cons hlt, (List.getElem?_eq_some_iff.1 hp).2]
      have eH : It.row v 50 1 (L.map (·.1)) :: (rwI (mkR k (L.take (i + 1))) ++ (rwI (L.drop (i + 1)) ++ H2)) = (It.row v 50 1 (L.map (·.1)) :: rwI (mkR k (L.take i))) ++ It.row p.1 2 1 (i64s (List.range' (k + tot (L.take i)) p.2.length)) :: (rwI (L.drop (i + 1)) ++ H2) := by
        rw [mkR_take hp, rwI_app, List.append_assoc]; rfl
      rw [ed]
      repeat' (first | (apply Jq_move; exact rfl; exact rfl) | (apply Jq_assign; exact rfl; exact rfl) | (apply Jq_cmp; exact rfl; exact rfl; exact rfl; exact rfl) | (apply Jq_add; exact rfl; exact rfl; exact rfl; omega) | (apply JcM; exact rfl; exact rfl; exact rfl; infer_instance; (exact mark_gives (H1 := It.row v 50 1 (L.map (·.1)) :: rwI (mkR k (L.take i))) (H2 := rwI (L.drop (i + 1)) ++ H2) (k + tot (L.take i)) (by omega) hpl)) | (apply Jq_lenR; exact rfl; exact rfl; (exact rb)) | (apply Jq_indexRN; exact rfl; exact rfl; exact rfl; (exact rb); omega) | (apply Jq_loadR; exact rfl; exact rfl; (exact rb); (exact g1)) | refine thenQ_normal ?_ | refine inBlockQ_normal ?_ | refine JC_seq ?_ | refine JC_region ?_ | refine J_nil ?_ | refine JC_block ?_ | refine JC_skip ?_ | (apply JC_dec_true; exact rfl; omega))
      refine ⟨i + 1, by omega, by omega, ?_⟩
      rw [eH, e]
      (refine ent ?_ ?_; (repeat refine fr_cons rfl ?_); exact fr_nil; (repeat (exact List.Sublist.refl _)))
    · obtain rfl : i = L.length := by omega
      rw [List.take_length, List.drop_length]
      repeat' (first | (apply Jq_move; exact rfl; exact rfl) | (apply Jq_assign; exact rfl; exact rfl) | (apply Jq_cmp; exact rfl; exact rfl; exact rfl; exact rfl) | (apply Jq_lenR; exact rfl; exact rfl; (exact rb)) | refine thenQ_normal ?_ | refine thenQ_exit ?_ | refine inBlockQ_here ?_ | refine JC_seq ?_ | refine JC_region ?_ | refine J_nil ?_ | refine JC_ret ?_ | refine JC_exit ?_ | (apply JC_dec_false; exact rfl; omega))
      refine SL.m1 rfl rfl rfl rfl ?_
      (refine ent ?_ ?_; (repeat refine fr_cons rfl ?_); exact fr_nil; (repeat (exact List.Sublist.refl _)))
end Go.Proofs.YtmbbcmebdefggaaGreatDoor
namespace Go.Proofs.YtmbbcmebdefggaaGreatDoor
open Go Go.RowKit SL
namespace SL
instance (priority := low) RB_A {v : Value} {A H : Hp} {e sz : Nat} {xs : List Value} [h : RB v H e sz xs] : RB v (A ++ H) e sz xs := ⟨List.mem_append.2 (.inr h.out)⟩
instance (priority := low) MB_A {b : Nat} {A H : Hp} {cs : List Value} {E : TypeId} [h : MB b H cs E] : MB b (A ++ H) cs E := ⟨List.mem_append.2 (.inr h.out)⟩
end SL
def rwR (L : List (Value × List Value)) : Hp := rwI L.reverse
theorem rwR_snoc (L : List (Value × List Value)) (p : Value × List Value) : rwR (L ++ [p]) = It.row p.1 2 1 p.2 :: rwR L := by
  unfold rwR
  rw [List.reverse_append]; rfl
theorem rwR_perm (L : List (Value × List Value)) : (rwR L).Perm (rwI L) := (List.reverse_perm L).map _
/-- What hands back rows of numbers and a code. -/
def ssR (M : List (List Value)) (c : Int) (H : Hp) (v' : Value) (H' : Hp) : Prop := ∃ u L, v' = .tuple #[u, .int .i64 c] ∧ L.map (·.2) = M ∧ H' = .row u 50 1 (L.map (·.1)) :: (rwI L ++ H)
/-- The same, without the code. -/
def ssV (M : List (List Value)) (H : Hp) (v' : Value) (H' : Hp) : Prop := ∃ L, L.map (·.2) = M ∧ H' = .row v' 50 1 (L.map (·.1)) :: (rwI L ++ H)
theorem sp_rows {x : It} {A A' C D : Hp} (hA : A.Perm A') (hs : List.Sublist C D) : SP (x :: (A' ++ C)) (x :: (A ++ D)) :=
  ⟨x :: (A ++ C), (hA.append_right C).cons x, (List.Sublist.append_left hs A).cons_cons x⟩
end Go.Proofs.YtmbbcmebdefggaaGreatDoor
