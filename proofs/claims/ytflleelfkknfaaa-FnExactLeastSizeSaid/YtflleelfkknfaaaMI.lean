/- Walks: all moves that fit, in order: the program's. -/
import Derived.Test.YtflleelfkknfaaaMH
import Derived.Test.YtflleelfkknfaaaAP
namespace Go.Proofs.Ytflleelfkknfaaa
open Go Go.RowKit SL
abbrev MvB := Nat × Nat × Nat
def encMv (m : MvB) : List Value := encMo m.1 m.2.1 m.2.2 0 0 0
theorem encMv_len (m : MvB) : (encMv m).length = 6 := rfl
theorem flatMv_len (l : List MvB) : (l.flatMap encMv).length = l.length * 6 := by
  induction l with
  | nil => rfl
  | cons x l ih => rw [List.flatMap_cons, List.length_append, encMv_len, ih, List.length_cons]; omega
open Classical in
noncomputable def ml0 (n : Nat) (X O : List Nat) (k : Nat) : List MvB := (List.range k).flatMap fun i => if decide (fit0 n X O i) = true then [(0, i, 0)] else []
open Classical in
noncomputable def ml1 (n : Nat) (X O : List Nat) (k : Nat) : List MvB := (List.range k).flatMap fun i => if decide (fit1 n X O i) = true then [(1, 0, i)] else []
open Classical in
noncomputable def ml3r (n : Nat) (X O : List Nat) (i k : Nat) : List MvB := (List.range k).flatMap fun r => if decide (fit3 n X O i r) = true then [(3, i, r)] else []
noncomputable def ml3 (n : Nat) (X O : List Nat) (k : Nat) : List MvB := (List.range k).flatMap fun i => ml3r n X O i n
theorem rangeF_succ {α : Type} (f : Nat → List α) (k : Nat) : (List.range (k + 1)).flatMap f = (List.range k).flatMap f ++ f k := by
  rw [List.range_succ, List.flatMap_append]
  simp
theorem rangeF_len {α : Type} (f : Nat → List α) (b : Nat) (h : ∀ i, (f i).length ≤ b) : ∀ k, ((List.range k).flatMap f).length ≤ k * b
  | 0 => by simp
  | k + 1 => by
    have := rangeF_len f b h k
    have h2 := h k
    rw [rangeF_succ, List.length_append, Nat.add_mul, Nat.one_mul]
    omega
theorem ite_len {α : Type} (b : Bool) (x : α) : (if b = true then [x] else []).length ≤ 1 := by cases b <;> simp
theorem ml0_len (n : Nat) (X O : List Nat) (k : Nat) : (ml0 n X O k).length ≤ k := by
  have := rangeF_len _ 1 (fun i => ite_len (@decide (fit0 n X O i) (Classical.propDecidable _)) ((0, i, 0) : MvB)) k
  unfold ml0
  omega
theorem ml1_len (n : Nat) (X O : List Nat) (k : Nat) : (ml1 n X O k).length ≤ k := by
  have := rangeF_len _ 1 (fun i => ite_len (@decide (fit1 n X O i) (Classical.propDecidable _)) ((1, 0, i) : MvB)) k
  unfold ml1
  omega
theorem ml3r_len (n : Nat) (X O : List Nat) (i k : Nat) : (ml3r n X O i k).length ≤ k := by
  have := rangeF_len _ 1 (fun r => ite_len (@decide (fit3 n X O i r) (Classical.propDecidable _)) ((3, i, r) : MvB)) k
  unfold ml3r
  omega
theorem ml3_len (n : Nat) (X O : List Nat) (k : Nat) : (ml3 n X O k).length ≤ k * n := rangeF_len _ n (fun i => ml3r_len n X O i n) k
/-- All moves that fit, but for those that add columns. -/
noncomputable def mvI (n : Nat) (X O : List Nat) : List MvB := ml0 n X O n ++ ml1 n X O n ++ ml3 n X O n
namespace SL
section
variable {P : Program} {B : Nat} {w0 : World} {n : Nat} {Q : Po} {F : Fr} {H : Hp} {ops : Array Oper} {l : List Oper} {ty : TypeId} {pos : String} {af : Array Edge} {d : Nat}
theorem Jq_fun2 {dr : Bool} {fn : Fn} {x y : Operand} {v u : Value} (hdn : Nat.blt d n = true) (hx : ev F x = some v) (hy : ev F y = some u) (kk : J dr P B w0 n ops Q l ((d, .func fn #[] #[v, u]) :: F) H) :
    J dr P B w0 n ops Q (⟨some d, .makeFunc fn #[] #[x, y], ty, pos, af, none⟩ :: l) F H :=
  J_q hdn (q_makeFunc (fun a ha => by simp) (fun a ha => by simp [ha.ev hx, ha.ev hy])) kk
end
end SL
set_option maxRecDepth 100000 in
theorem add_gives {B : Nat} {w0 : World} {H2 : Hp} (b2 b5 : Nat) (v : Value) (xs : List Value) (n : Nat) (X O : List Nat) (bX : isB X) (bO : isB O) (m : MvB) (b : Bool) (hfit : ∀ w, Gives Try.prog 73 #[.agg (gv n X O).toArray, .agg (encMv m).toArray] (.bool b) w) (hl : xs.length ≤ 1000000) :
    GivesE Try.prog 72 #[.agg (encMv m).toArray, .pointer (some ⟨b2, 0, none⟩), .pointer (some ⟨b5, 0, none⟩)] B w0 (.blk b2 (gv n X O) 27 :: .blk b5 [v] 70 :: .row v 73 6 xs :: H2)
      (fun _ H' => ∃ v', H' = .blk b2 (gv n X O) 27 :: .blk b5 [v'] 70 :: .row v' 73 6 (xs ++ if b = true then encMv m else []) :: H2) := by
  have ug := gv_len (n := (n : Int)) bX.1 bO.1
  have um := encMv_len m
  have hne : encMv m ≠ [] := fun e => by rw [e] at um; cases um
  have h1 : ∀ x ∈ encMv m, x.oneCell' = true := encMo_one _ _ _ _ _ _
  refine givesE_of (args := [.agg (encMv m).toArray, .pointer (some ⟨b2, 0, none⟩), .pointer (some ⟨b5, 0, none⟩)]) [(0, .agg (encMv m).toArray), (1, .pointer (some ⟨b2, 0, none⟩)), (2, .pointer (some ⟨b5, 0, none⟩))] Try.func72 rfl Try.ntmps72 rfl (argsF_cons rfl (argsF_cons rfl (argsF_cons rfl argsF_nil))) ?_
  cases b with
  | false =>
    repeat' (first | (apply Jc; exact rfl; exact rfl; exact rfl; infer_instance; ((intro w hw); exact hfit w)) | (apply Jq_loadW; exact rfl; exact rfl; (exact mb); (first | exact rfl | omega)) | (apply J_box; exact rfl; exact rfl; exact rfl; (intro _)) | refine thenQ_normal ?_ | refine JC_seq ?_ | refine JC_region ?_ | refine J_nil ?_ | refine JC_skip ?_ | (apply JC_if_false; exact rfl))
    refine e0 (H' := .blk b2 (gv n X O) 27 :: .blk b5 [v] 70 :: .row v 73 6 xs :: H2) rfl rfl ?_ ⟨v, by rw [if_neg (by decide), List.append_nil]⟩
    (refine ent ?_ ?_; (repeat refine fr_cons rfl ?_); exact fr_nil; (repeat (first | exact List.nil_sublist _ | exact List.Sublist.refl _ | refine List.Sublist.cons_cons _ ?_ | refine List.Sublist.cons _ ?_)))
  | true =>
    repeat' (first | (apply J_ap; decide; exact rfl; exact rfl; exact rfl; infer_instance; exact rb; exact hne; exact h1; ((show (_ + _) * _ ≤ _); omega); decide; exact rfl; (intro _)) | (apply J_s1r; exact rfl; exact rfl; (focus (repeat (first | exact m0 | refine mS ?_))); infer_instance; exact Nat.one_pos; exact rfl; infer_instance) | (apply Jq_load; exact rfl; exact rfl; (exact mb); (exact rfl)) | (apply Jc; exact rfl; exact rfl; exact rfl; infer_instance; ((intro w hw); exact hfit w)) | (apply Jq_loadW; exact rfl; exact rfl; (exact mb); (first | exact rfl | omega)) | (apply J_box; exact rfl; exact rfl; exact rfl; (intro _)) | (apply J_lit1s; exact rfl; exact rfl; (exact rfl); decide; decide; (intro _)) | refine thenQ_normal ?_ | refine JC_seq ?_ | refine JC_region ?_ | refine J_nil ?_ | (apply JC_if_true; exact rfl))
    rename_i u
    refine e0 (H' := .blk b2 (gv n X O) 27 :: .blk b5 [u] 70 :: .row u 73 6 (xs ++ encMv m) :: H2) rfl rfl ?_ ⟨u, by rw [if_pos rfl]⟩
    (refine entP (ent ?_ (List.nil_sublist _)) ?_; (repeat refine fr_cons rfl ?_); exact fr_nil; (repeat (first | exact sp_end | (with_reducible apply sp2) | apply sp2)))
theorem flat_ite (l : List MvB) (b : Bool) (m : MvB) : l.flatMap encMv ++ (if b = true then encMv m else []) = (l ++ if b = true then [m] else []).flatMap encMv := by
  cases b <;> simp
set_option maxRecDepth 100000 in
theorem moves_gives (n : Nat) (X O : List Nat) (bX : isB X) (bO : isB O) (g : okG (n : Int) X O) (w : World) :
    GivesN Try.prog 50 #[.agg (gv n X O).toArray, .bool false] (isRow 73 6 ((mvI n X O).flatMap encMv)) w := by
  have ug := gv_len (n := (n : Int)) bX.1 bO.1
  have hg := g.1
  have h8 : n ≤ 8 := by omega
  have h64 : n * n ≤ 64 := Nat.mul_le_mul h8 h8
  have l0 := ml0_len n X O
  have l1 := ml1_len n X O
  have l3 := ml3_len n X O
  have l3r := ml3r_len n X O
  have um : ∀ a b c, (encMo a b c 0 0 0).length = 6 := fun _ _ _ => rfl
  refine givesN_of (args := [.agg (gv n X O).toArray, .bool false]) [(0, .agg (gv n X O).toArray), (1, .bool false)] [] Try.func50 rfl Try.ntmps50 rfl (argsF_cons rfl (argsF_cons rfl argsF_nil)) (Holds.start w) ?_
  repeat' (first | (apply Jq_fun2; exact rfl; exact rfl; exact rfl) | (apply Jq_move; exact rfl; exact rfl) | (apply Jq_assign; exact rfl; exact rfl) | (apply Jq_load; exact rfl; exact rfl; (exact mb); (exact rfl)) | (apply Jq_fieldAddr; exact rfl; exact rfl) | (apply J_s1; exact rfl; exact rfl; exact rfl; infer_instance; (exact Nat.le_of_ble_eq_true rfl); (exact rfl); infer_instance) | (apply J_box; exact rfl; exact rfl; exact rfl; (intro _)) | (apply J_alloc; exact rfl; exact rfl; (intro _)) | (apply J_lit0; exact rfl; (intro _)) | refine thenQ_normal ?_ | refine JC_seq ?_ | refine JC_region ?_ | refine J_nil ?_ | refine JC_block ?_)
  rename_i b2 b13 b5
  refine JC_loop (X := Nat × Value) (fun p => p.1 ≤ n) (fun p => [(17, .int .i64 (p.1 : Int)), (16, .int .i64 (n : Int)), (6, .func (.func 72) #[] #[.pointer (some ⟨b2, 0, none⟩), .pointer (some ⟨b5, 0, none⟩)]), (1, .bool false), (2, .pointer (some ⟨b2, 0, none⟩)), (5, .pointer (some ⟨b5, 0, none⟩))])
    (fun p => [.blk b2 (gv n X O) 27, .blk b5 [p.2] 70, .row p.2 73 6 ((ml0 n X O p.1).flatMap encMv)]) (fun p => n - p.1) (0, .slice (some ⟨b13, 0, none⟩) 0 0) (Nat.zero_le _) ?_ ?_
  · (refine entP (ent ?_ (List.nil_sublist _)) ?_; (repeat refine fr_cons rfl ?_); exact fr_nil; (repeat (first | exact sp_refl | (with_reducible apply sp2))))
  · rintro ⟨k, v⟩ hk
    dsimp only at hk ⊢
    by_cases hlt : k < n
    · have hl := l0 k
      have hfl := flatMv_len (ml0 n X O k)
      have hfit := fits0_gives n X O k bX bO (by omega) h8
      have uk := um 0 k 0
      repeat' (first | (apply JcEcP (H1 := .blk b2 (gv n X O) 27 :: .blk b5 [v] 70 :: .row v 73 6 ((ml0 n X O k).flatMap encMv) :: []); exact rfl; exact rfl; exact rfl; infer_instance; (refine entP (ent ?_ (List.nil_sublist _)) ?_; (repeat refine fr_cons rfl ?_); exact fr_nil; (repeat (exact sp_refl))); (exact add_gives b2 b5 v _ n X O bX bO (0, k, 0) _ hfit (by omega)); (intro v' H' hV; obtain ⟨u, rfl⟩ := hV)) | (apply Jq_move; exact rfl; exact rfl) | (apply Jq_assign; exact rfl; exact rfl) | (apply Jq_cmp; exact rfl; exact rfl; exact rfl; exact rfl) | (apply Jq_add; exact rfl; exact rfl; exact rfl; omega) | (apply Jq_buildE; exact rfl; exact rfl; exact built_move0' k) | refine thenQ_normal ?_ | refine inBlockQ_normal ?_ | refine JC_seq ?_ | refine JC_region ?_ | refine J_nil ?_ | refine JC_block ?_ | refine JC_skip ?_ | (apply JC_dec_true; exact rfl; omega))
      rw [flat_ite, show ml0 n X O k ++ (if @decide (fit0 n X O k) (Classical.propDecidable _) = true then [(0, k, 0)] else []) = ml0 n X O (k + 1) from (rangeF_succ _ k).symm]
      refine ⟨(k + 1, u), by dsimp only; omega, by dsimp only; omega, ?_⟩
      dsimp only
      (refine entP (ent ?_ (List.nil_sublist _)) ?_; (repeat refine fr_cons rfl ?_); exact fr_nil; (repeat (exact sp_refl)))
    · have ekn : k = n := by omega
      rw [ekn]
      clear hlt hk ekn k
      repeat' (first | (apply Jq_move; exact rfl; exact rfl) | (apply Jq_load; exact rfl; exact rfl; (exact mb); (exact rfl)) | (apply Jq_fieldAddr; exact rfl; exact rfl) | (apply Jq_cmp; exact rfl; exact rfl; exact rfl; exact rfl) | refine thenQ_normal ?_ | refine thenQ_exit ?_ | refine inBlockQ_here ?_ | refine JC_seq ?_ | refine JC_region ?_ | refine J_nil ?_ | refine JC_block ?_ | refine JC_exit ?_ | (apply JC_dec_false; exact rfl; omega))
      refine JC_loop (X := Nat × Value) (fun p => p.1 ≤ n) (fun p => [(27, .int .i64 (p.1 : Int)), (26, .int .i64 (n : Int)), (6, .func (.func 72) #[] #[.pointer (some ⟨b2, 0, none⟩), .pointer (some ⟨b5, 0, none⟩)]), (1, .bool false), (2, .pointer (some ⟨b2, 0, none⟩)), (5, .pointer (some ⟨b5, 0, none⟩))])
        (fun p => [.blk b2 (gv n X O) 27, .blk b5 [p.2] 70, .row p.2 73 6 ((ml0 n X O n ++ ml1 n X O p.1).flatMap encMv)]) (fun p => n - p.1) (0, v) (Nat.zero_le _) ?_ ?_
      · rw [show ml0 n X O n ++ ml1 n X O (0 : Nat) = ml0 n X O n from List.append_nil _]
        (refine entP (ent ?_ (List.nil_sublist _)) ?_; (repeat refine fr_cons rfl ?_); exact fr_nil; (repeat (exact sp_refl)))
      · clear v
        rintro ⟨k, v⟩ hk
        dsimp only at hk ⊢
        by_cases hlt : k < n
        · have hl := l0 n
          have hl' := l1 k
          have hfl := flatMv_len (ml0 n X O n ++ ml1 n X O k)
          rw [List.length_append] at hfl
          have hfit := fits1_gives n X O k bX bO g
          have uk := um 1 0 k
          repeat' (first | (apply JcEcP (H1 := .blk b2 (gv n X O) 27 :: .blk b5 [v] 70 :: .row v 73 6 ((ml0 n X O n ++ ml1 n X O k).flatMap encMv) :: []); exact rfl; exact rfl; exact rfl; infer_instance; (refine entP (ent ?_ (List.nil_sublist _)) ?_; (repeat refine fr_cons rfl ?_); exact fr_nil; (repeat (exact sp_refl))); (exact add_gives b2 b5 v _ n X O bX bO (1, 0, k) _ hfit (by omega)); (intro v' H' hV; obtain ⟨u, rfl⟩ := hV)) | (apply Jq_move; exact rfl; exact rfl) | (apply Jq_assign; exact rfl; exact rfl) | (apply Jq_cmp; exact rfl; exact rfl; exact rfl; exact rfl) | (apply Jq_add; exact rfl; exact rfl; exact rfl; omega) | (apply Jq_buildE; exact rfl; exact rfl; exact built_move1 k) | refine thenQ_normal ?_ | refine inBlockQ_normal ?_ | refine JC_seq ?_ | refine JC_region ?_ | refine J_nil ?_ | refine JC_block ?_ | refine JC_skip ?_ | (apply JC_dec_true; exact rfl; omega))
          rw [flat_ite, List.append_assoc, show ml1 n X O k ++ (if @decide (fit1 n X O k) (Classical.propDecidable _) = true then [(1, 0, k)] else []) = ml1 n X O (k + 1) from (rangeF_succ _ k).symm]
          refine ⟨(k + 1, u), by dsimp only; omega, by dsimp only; omega, ?_⟩
          dsimp only
          (refine entP (ent ?_ (List.nil_sublist _)) ?_; (repeat refine fr_cons rfl ?_); exact fr_nil; (repeat (exact sp_refl)))
        · have ekn : k = n := by omega
          rw [ekn]
          clear hlt hk ekn k
          repeat' (first | (apply Jq_move; exact rfl; exact rfl) | (apply Jq_load; exact rfl; exact rfl; (exact mb); (exact rfl)) | (apply Jq_fieldAddr; exact rfl; exact rfl) | (apply Jq_cmp; exact rfl; exact rfl; exact rfl; exact rfl) | refine thenQ_normal ?_ | refine thenQ_exit ?_ | refine inBlockQ_here ?_ | refine JC_seq ?_ | refine JC_region ?_ | refine J_nil ?_ | refine JC_block ?_ | refine JC_exit ?_ | (apply JC_dec_false; exact rfl; omega))
          refine JC_loop (X := Nat) (fun p => p ≤ n) (fun p => [(37, .int .i64 (p : Int)), (36, .int .i64 (n : Int)), (6, .func (.func 72) #[] #[.pointer (some ⟨b2, 0, none⟩), .pointer (some ⟨b5, 0, none⟩)]), (1, .bool false), (2, .pointer (some ⟨b2, 0, none⟩)), (5, .pointer (some ⟨b5, 0, none⟩))])
            (fun _ => [.blk b2 (gv n X O) 27, .blk b5 [v] 70, .row v 73 6 ((ml0 n X O n ++ ml1 n X O n).flatMap encMv)]) (fun p => n - p) 0 (Nat.zero_le _) ?_ ?_
          · (refine entP (ent ?_ (List.nil_sublist _)) ?_; (repeat refine fr_cons rfl ?_); exact fr_nil; (repeat (exact sp_refl)))
          · intro p hp
            by_cases hlt : p < n
            · repeat' (first | (apply Jq_move; exact rfl; exact rfl) | (apply Jq_assign; exact rfl; exact rfl) | (apply Jq_cmp; exact rfl; exact rfl; exact rfl; exact rfl) | refine thenQ_normal ?_ | refine JC_seq ?_ | refine JC_region ?_ | refine J_nil ?_ | refine JC_block ?_ | refine JC_skip ?_ | (apply JC_dec_true; exact rfl; omega))
              refine JC_loop (X := Nat) (fun q => q ≤ 8) (fun q => [(40, .int .i64 (q : Int)), (37, .int .i64 (p : Int)), (36, .int .i64 (n : Int)), (6, .func (.func 72) #[] #[.pointer (some ⟨b2, 0, none⟩), .pointer (some ⟨b5, 0, none⟩)]), (1, .bool false), (2, .pointer (some ⟨b2, 0, none⟩)), (5, .pointer (some ⟨b5, 0, none⟩))])
                (fun _ => [.blk b2 (gv n X O) 27, .blk b5 [v] 70, .row v 73 6 ((ml0 n X O n ++ ml1 n X O n).flatMap encMv)]) (fun q => 8 - q) 0 (Nat.zero_le _) ?_ ?_
              · (refine entP (ent ?_ (List.nil_sublist _)) ?_; (repeat refine fr_cons rfl ?_); exact fr_nil; (repeat (exact sp_refl)))
              · intro q hq
                by_cases hlq : q < 8
                · repeat' (first | (apply Jq_move; exact rfl; exact rfl) | (apply Jq_assign; exact rfl; exact rfl) | (apply Jq_cmp; exact rfl; exact rfl; exact rfl; exact rfl) | (apply Jq_add; exact rfl; exact rfl; exact rfl; omega) | refine thenQ_normal ?_ | refine inBlockQ_normal ?_ | refine JC_seq ?_ | refine JC_region ?_ | refine J_nil ?_ | refine JC_block ?_ | refine JC_skip ?_ | (apply JC_if_false; exact rfl) | (apply JC_dec_true; exact rfl; omega))
                  refine ⟨q + 1, by omega, by omega, ?_⟩
                  (refine entP (ent ?_ (List.nil_sublist _)) ?_; (repeat refine fr_cons rfl ?_); exact fr_nil; (repeat (exact sp_refl)))
                · repeat' (first | (apply Jq_move; exact rfl; exact rfl) | (apply Jq_cmp; exact rfl; exact rfl; exact rfl; exact rfl) | (apply Jq_add; exact rfl; exact rfl; exact rfl; omega) | refine thenQ_normal ?_ | refine thenQ_exit ?_ | refine inBlockQ_normal ?_ | refine inBlockQ_here ?_ | refine JC_seq ?_ | refine JC_region ?_ | refine J_nil ?_ | refine JC_exit ?_ | (apply JC_dec_false; exact rfl; omega))
                  refine ⟨p + 1, by omega, by omega, ?_⟩
                  (refine entP (ent ?_ (List.nil_sublist _)) ?_; (repeat refine fr_cons rfl ?_); exact fr_nil; (repeat (exact sp_refl)))
            · repeat' (first | (apply Jq_move; exact rfl; exact rfl) | (apply Jq_load; exact rfl; exact rfl; (exact mb); (exact rfl)) | (apply Jq_fieldAddr; exact rfl; exact rfl) | (apply Jq_cmp; exact rfl; exact rfl; exact rfl; exact rfl) | refine thenQ_normal ?_ | refine thenQ_exit ?_ | refine inBlockQ_here ?_ | refine JC_seq ?_ | refine JC_region ?_ | refine J_nil ?_ | refine JC_block ?_ | refine JC_exit ?_ | (apply JC_dec_false; exact rfl; omega))
              refine JC_loop (X := Nat × Value) (fun p => p.1 ≤ n) (fun p => [(59, .int .i64 (p.1 : Int)), (58, .int .i64 (n : Int)), (6, .func (.func 72) #[] #[.pointer (some ⟨b2, 0, none⟩), .pointer (some ⟨b5, 0, none⟩)]), (1, .bool false), (2, .pointer (some ⟨b2, 0, none⟩)), (5, .pointer (some ⟨b5, 0, none⟩))])
                (fun p => [.blk b2 (gv n X O) 27, .blk b5 [p.2] 70, .row p.2 73 6 ((ml0 n X O n ++ ml1 n X O n ++ ml3 n X O p.1).flatMap encMv)]) (fun p => n - p.1) (0, v) (Nat.zero_le _) ?_ ?_
              · rw [show ml0 n X O n ++ ml1 n X O n ++ ml3 n X O (0 : Nat) = ml0 n X O n ++ ml1 n X O n from List.append_nil _]
                (refine entP (ent ?_ (List.nil_sublist _)) ?_; (repeat refine fr_cons rfl ?_); exact fr_nil; (repeat (exact sp_refl)))
              · clear v hlt hp p
                rintro ⟨i, v⟩ hi
                dsimp only at hi ⊢
                by_cases hlt : i < n
                · repeat' (first | (apply Jq_move; exact rfl; exact rfl) | (apply Jq_assign; exact rfl; exact rfl) | (apply Jq_load; exact rfl; exact rfl; (exact mb); (exact rfl)) | (apply Jq_fieldAddr; exact rfl; exact rfl) | (apply Jq_cmp; exact rfl; exact rfl; exact rfl; exact rfl) | refine thenQ_normal ?_ | refine JC_seq ?_ | refine JC_region ?_ | refine J_nil ?_ | refine JC_block ?_ | refine JC_skip ?_ | (apply JC_dec_true; exact rfl; omega))
                  refine JC_loop (X := Nat × Value) (fun p => p.1 ≤ n) (fun p => [(64, .int .i64 (p.1 : Int)), (63, .int .i64 (n : Int)), (11, .int .i64 (i : Int)), (59, .int .i64 (i : Int)), (58, .int .i64 (n : Int)), (6, .func (.func 72) #[] #[.pointer (some ⟨b2, 0, none⟩), .pointer (some ⟨b5, 0, none⟩)]), (1, .bool false), (2, .pointer (some ⟨b2, 0, none⟩)), (5, .pointer (some ⟨b5, 0, none⟩))])
                    (fun p => [.blk b2 (gv n X O) 27, .blk b5 [p.2] 70, .row p.2 73 6 ((ml0 n X O n ++ ml1 n X O n ++ ml3 n X O i ++ ml3r n X O i p.1).flatMap encMv)]) (fun p => n - p.1) (0, v) (Nat.zero_le _) ?_ ?_
                  · rw [show ml0 n X O n ++ ml1 n X O n ++ ml3 n X O i ++ ml3r n X O i (0 : Nat) = ml0 n X O n ++ ml1 n X O n ++ ml3 n X O i from List.append_nil _]
                    (refine entP (ent ?_ (List.nil_sublist _)) ?_; (repeat refine fr_cons rfl ?_); exact fr_nil; (repeat (exact sp_refl)))
                  · clear v
                    rintro ⟨k, v⟩ hk
                    dsimp only at hk ⊢
                    by_cases hlk : k < n
                    · have hl := l0 n
                      have hl1 := l1 n
                      have hl3 := l3 i
                      have hl3r := l3r i k
                      have hin : i * n ≤ n * n := Nat.mul_le_mul_right n hi
                      have hfl := flatMv_len (ml0 n X O n ++ ml1 n X O n ++ ml3 n X O i ++ ml3r n X O i k)
                      rw [List.length_append, List.length_append, List.length_append] at hfl
                      have hfit := fits3_gives n X O i k bX bO g
                      have uk := um 3 i k
                      repeat' (first | (apply JcEcP (H1 := .blk b2 (gv n X O) 27 :: .blk b5 [v] 70 :: .row v 73 6 ((ml0 n X O n ++ ml1 n X O n ++ ml3 n X O i ++ ml3r n X O i k).flatMap encMv) :: []); exact rfl; exact rfl; exact rfl; infer_instance; (refine entP (ent ?_ (List.nil_sublist _)) ?_; (repeat refine fr_cons rfl ?_); exact fr_nil; (repeat (exact sp_refl))); (exact add_gives b2 b5 v _ n X O bX bO (3, i, k) _ hfit (by omega)); (intro v' H' hV; obtain ⟨u, rfl⟩ := hV)) | (apply Jq_move; exact rfl; exact rfl) | (apply Jq_assign; exact rfl; exact rfl) | (apply Jq_cmp; exact rfl; exact rfl; exact rfl; exact rfl) | (apply Jq_add; exact rfl; exact rfl; exact rfl; omega) | (apply Jq_buildE; exact rfl; exact rfl; exact built_move3 i k) | refine thenQ_normal ?_ | refine inBlockQ_normal ?_ | refine JC_seq ?_ | refine JC_region ?_ | refine J_nil ?_ | refine JC_block ?_ | refine JC_skip ?_ | (apply JC_dec_true; exact rfl; omega))
                      rw [flat_ite, List.append_assoc (ml0 n X O n ++ ml1 n X O n ++ ml3 n X O i), show ml3r n X O i k ++ (if @decide (fit3 n X O i k) (Classical.propDecidable _) = true then [(3, i, k)] else []) = ml3r n X O i (k + 1) from (rangeF_succ _ k).symm]
                      refine ⟨(k + 1, u), by dsimp only; omega, by dsimp only; omega, ?_⟩
                      dsimp only
                      (refine entP (ent ?_ (List.nil_sublist _)) ?_; (repeat refine fr_cons rfl ?_); exact fr_nil; (repeat (exact sp_refl)))
                    · have ekn : k = n := by omega
                      rw [ekn, List.append_assoc (ml0 n X O n ++ ml1 n X O n), show ml3 n X O i ++ ml3r n X O i n = ml3 n X O (i + 1) from (rangeF_succ _ i).symm]
                      repeat' (first | (apply Jq_move; exact rfl; exact rfl) | (apply Jq_cmp; exact rfl; exact rfl; exact rfl; exact rfl) | (apply Jq_add; exact rfl; exact rfl; exact rfl; omega) | refine thenQ_normal ?_ | refine thenQ_exit ?_ | refine inBlockQ_normal ?_ | refine inBlockQ_here ?_ | refine JC_seq ?_ | refine JC_region ?_ | refine J_nil ?_ | refine JC_exit ?_ | (apply JC_dec_false; exact rfl; omega))
                      refine ⟨(i + 1, v), by dsimp only; omega, by dsimp only; omega, ?_⟩
                      dsimp only
                      (refine entP (ent ?_ (List.nil_sublist _)) ?_; (repeat refine fr_cons rfl ?_); exact fr_nil; (repeat (exact sp_refl)))
                · have ein : i = n := by omega
                  rw [ein]
                  repeat' (first | (apply Jq_assign; exact rfl; exact rfl) | (apply Jq_load; exact rfl; exact rfl; (exact mb); (exact rfl)) | (apply Jq_cmp; exact rfl; exact rfl; exact rfl; exact rfl) | refine thenQ_normal ?_ | refine thenQ_exit ?_ | refine inBlockQ_here ?_ | refine JC_seq ?_ | refine JC_region ?_ | refine J_nil ?_ | refine JC_ret ?_ | refine JC_exit ?_ | (apply JC_dec_false; exact rfl; omega))
                  refine n1 rfl rfl rfl ?_ rfl
                  (refine entP (ent ?_ (List.nil_sublist _)) ?_; (repeat refine fr_cons rfl ?_); exact fr_nil; (repeat (first | exact sp_nil | apply sp2)))
end Go.Proofs.Ytflleelfkknfaaa
