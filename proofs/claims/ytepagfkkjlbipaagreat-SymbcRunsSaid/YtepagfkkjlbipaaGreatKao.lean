/-
  Parts of the proof of SymbcRuns. Conditions: those written in each statement.
-/
import Derived.Test.YtepagfkkjlbipaaGreatNn
import Derived.Test.YtepagfkkjlbipaaGreatKan
set_option linter.unusedVariables false
set_option linter.unusedSimpArgs false
set_option maxHeartbeats 64000000
set_option maxRecDepth 100000
namespace Go.Proofs.YtepagfkkjlbipaaGreat
open Go.RowKit
open Tryz
section
section
variable {base f g : Nat}{op x a b c d : Int}{lf rt tn sh : Bool}{b5 b6 b7 b8 b9 b15 b17 b18 b19 b20 b21 b22 b23 b24 : Nat}{F : Nat → Prop}{W : World}{p : PS}{r : RS}
theorem zjx (hE : OpE g op x a b c d lf rt tn sh b5 b6 b7 b8 b9 b15 b17 b18 b19 b20 b21 b22 b23 b24 F W)(hp : zam W base F g p)(hbase : base ≤ W.heap.size)(hx : x = 32 ∨ x = 64)(hsh : zai op = sh)(hn : I64 a)(hr : (rt && zaB op x d) = true → zbw f p x a = some r) :
 Calls prog 132 #[.pointer (some ⟨b19,0,none⟩),.pointer (some ⟨b6,0,none⟩),.pointer (some ⟨b24,0,none⟩),.pointer (some ⟨b7,0,none⟩),.pointer (some ⟨b20,0,none⟩),.pointer (some ⟨b22,0,none⟩),.pointer (some ⟨b8,0,none⟩)] W fun e w' => ((rt && zaB op x d) = false ∧ e = .returned (.tuple #[.int .i64 0,.bool false,.int .i64 0]) ∧ Below W.heap.size W w') ∨ ((rt && zaB op x d) = true ∧ ∃ n m,e = .returned (.tuple #[.int .i64 n,.bool true,.int .i64 m]) ∧ RR base g F W r n m w') := by
 have HX := Hd (show x = 8 ∨ x = 16 ∨ x = 32 ∨ x = 64 by omega)
 have hw1 : IntKind.i8.wrap (x - 1) = x - 1 := by rcases hx with rfl | rfl <;> decide
 have hw2 : IntKind.u64.wrap (x - 1) = x - 1 := by rcases hx with rfl | rfl <;> decide
 obtain ⟨S,hS⟩ : ∃ S,zaB op x d = S := ⟨_,rfl⟩;rw [hS] at hr ⊢;have HS := Hd hS
 have HSH := Hd hsh
 have HB := Hd hbase
 have HRI := Hd hr
 have HN := Hd hn
 have HE := Hd hE
 have HP := Hd hp
 have HP0 := Hd (PG.refl hp)
 have HL0 := Hd (Below.refl W.heap.size W)
 clear hE hp hx hS hsh hbase hr hn;go_enter func132,ntmps132;go_upto_region 1 with fail
 go_cut [10] from 11 to 57 (fun sv wc => sv = .bool S ∧ PG base g F W F p wc ∧ Below W.heap.size W wc)
 case first =>
  clear HRI HB HN HX;obtain ⟨M,hM⟩ : ∃ M,zao x 18446744073709551615 = M := ⟨_,rfl⟩;have HM := Hd hM
  have HCM := Hd (fun W => by have := zbD 18446744073709551615 x W; rw [hM] at this; exact this : ∀ W,Calls prog 97 #[.int .u64 18446744073709551615,.int .i8 x] W fun e w' => e = .returned (.int .u64 M) ∧ W = w')
  clear hM;have c19 := HE.out.e19.1.cell 0;have c6 := HE.out.e6.1.cell 0;have c24 := HE.out.e24.1.cell 0;have c7 := HE.out.e7.1.cell 0;simp at c19 c6 c24 c7
  cases h5 : (op == 5);rotate_left
  ·obtain ⟨h2,h0,h4,h10,h9⟩ : (op == 2) = false ∧ (op == 0) = false ∧ (op == 4) = false ∧ (op == 10) = false ∧ (op == 9) = false := by simp at h5; subst h5; exact ⟨rfl,rfl,rfl,rfl,rfl⟩
   obtain rfl : sh = false := by have q := HSH.out; simp at h5; subst h5; exact q.symm
   cases hd : (d == 0) <;> cases hc : (d == M)
   all_goals
    refine zac (fun w' => Blk w' b19 31 #[.int .u64 d] ∧ Blk w' b6 30 #[.int .i8 op] ∧ Blk w' b24 4 #[.bool false] ∧ Blk w' b7 30 #[.int .i8 x]) (fun _ => True) [] (by kernel_rfl) ?_;have HPd := Hd (HP0.out.step ((Below.refl _ _).drew))
    have HL := Hd (HL0.out.trans (((Below.refl _ _).drew).mono HL0.out.size))
    have HT := Hd (⟨(HPd.out.blk HE.out.e19.1 HE.out.e19.2).1,(HPd.out.blk HE.out.e6.1 HE.out.e6.2).1,(HPd.out.blk HE.out.e24.1 HE.out.e24.2).1,(HPd.out.blk HE.out.e7.1 HE.out.e7.2).1⟩ : Blk W.drew b19 31 #[.int .u64 d] ∧ Blk W.drew b6 30 #[.int .i8 op] ∧ Blk W.drew b24 4 #[.bool false] ∧ Blk W.drew b7 30 #[.int .i8 x])
    clear HP0 HL0 c19 c6 c24 c7;generalize W.drew = Wd at HT HPd HL ⊢;refine el false 0 ⟨b19,0,none⟩ (.int .u64 d) underlying31 (fun w hS => (hS.1.1.cell 0)) (bT HT) ?_
    first | refine eg 1 (.bool false) (bT HT) ?_ | refine eg 1 (.bool true) (bT HT) ?_
    first | refine em 2 (.bool false) (bT HT) ?_ | refine em 2 (.bool true) (bT HT) ?_
    first | refine en 3 (bT HT) ?_ | refine el false 3 ⟨b6,0,none⟩ (.int .i8 op) underlying30 (fun w hS => (hS.1.2.1.cell 0)) (bT HT) ?_
    first | refine en 4 (bT HT) ?_ | refine eg 4 (.bool false) (bT HT) ?_
    first | refine en 5 (bT HT) ?_ | refine em 5 (.bool false) (bT HT) ?_
    first | refine en 6 (bT HT) ?_ | refine el false 6 ⟨b6,0,none⟩ (.int .i8 op) underlying30 (fun w hS => (hS.1.2.1.cell 0)) (bT HT) ?_
    first | refine en 7 (bT HT) ?_ | refine eg 7 (.bool false) (bT HT) ?_
    first | refine en 8 (bT HT) ?_ | refine ep 8 false (.bool false) (bT HT) ?_
    first | refine en 9 (bT HT) ?_ | refine em 9 (.bool false) (bT HT) ?_
    first | refine en 10 (bT HT) ?_ | refine el false 10 ⟨b6,0,none⟩ (.int .i8 op) underlying30 (fun w hS => (hS.1.2.1.cell 0)) (bT HT) ?_
    first | refine en 11 (bT HT) ?_ | refine eg 11 (.bool false) (bT HT) ?_
    first | refine en 12 (bT HT) ?_ | refine ep 12 false (.bool false) (bT HT) ?_
    first | refine en 13 (bT HT) ?_ | refine em 13 (.bool false) (bT HT) ?_
    first | refine en 14 (bT HT) ?_ | refine el false 14 ⟨b6,0,none⟩ (.int .i8 op) underlying30 (fun w hS => (hS.1.2.1.cell 0)) (bT HT) ?_
    first | refine en 15 (bT HT) ?_ | refine eg 15 (.bool false) (bT HT) ?_
    first | refine en 16 (bT HT) ?_ | refine ep 16 false (.bool false) (bT HT) ?_
    first | refine ep 17 false (.bool false) (bT HT) ?_ | refine ep 17 true (.bool false) (bT HT) ?_
    refine em 18 (.bool false) (bT HT) ?_;refine el false 19 ⟨b24,0,none⟩ (.bool false) underlying4 (fun w hS => (hS.1.2.2.1.cell 0)) (bT HT) ?_;refine em 20 (.bool false) (bT HT) ?_;refine en 21 (bT HT) ?_;refine en 22 (bT HT) ?_;refine en 23 (bT HT) ?_;refine en 24 (bT HT) ?_;refine en 25 (bT HT) ?_;refine en 26 (bT HT) ?_;refine ep 27 false (.bool false) (bT HT) ?_;refine ep 28 false (.bool false) (bT HT) ?_;refine em 29 (.bool false) (bT HT) ?_;refine el false 30 ⟨b6,0,none⟩ (.int .i8 op) underlying30 (fun w hS => (hS.1.2.1.cell 0)) (bT HT) ?_;refine eg 31 (.bool false) (bT HT) ?_;refine em 32 (.bool false) (bT HT) ?_;refine en 33 (bT HT) ?_;refine en 34 (bT HT) ?_;refine ep 35 false (.bool false) (bT HT) ?_;refine ep 36 false (.bool false) (bT HT) ?_;refine em 37 (.bool false) (bT HT) ?_;refine el false 38 ⟨b6,0,none⟩ (.int .i8 op) underlying30 (fun w hS => (hS.1.2.1.cell 0)) (bT HT) ?_;refine eg 39 (.bool true) (bT HT) ?_;refine em 40 (.bool true) (bT HT) ?_;refine el false 41 ⟨b19,0,none⟩ (.int .u64 d) underlying31 (fun w hS => (hS.1.1.cell 0)) (bT HT) ?_;refine el false 42 ⟨b7,0,none⟩ (.int .i8 x) underlying30 (fun w hS => (hS.1.2.2.2.cell 0)) (bT HT) ?_;refine ec 43 (HCM.out _) ?_;rintro e w' ⟨rfl,rfl⟩;refine ek (bT HT) ?_
    first | refine eg 44 (.bool false) (bT HT) ?_ | refine eg 44 (.bool true) (bT HT) ?_
    first | refine ep 45 true (.bool false) (bT HT) ?_ | refine ep 45 true (.bool true) (bT HT) ?_
    first | refine ep 46 false (.bool false) (bT HT) ?_ | refine ep 46 false (.bool true) (bT HT) ?_
    first | refine zaN 47 (by kernel_rfl) (zar.assign 47 (some 10) _ (.bool false) rfl (by rfl) (by rfl) (bT HT) ?_) | refine zaN 47 (by kernel_rfl) (zar.assign 47 (some 10) _ (.bool true) rfl (by rfl) (by rfl) (bT HT) ?_)
    simp only [pt,pn,sL];refine zab (by kernel_rfl) ?_ _;go_wp2;go_meet
    case rel => exact ⟨by rw [← HS.out]; unfold zaB; rw [HSH.out,HM.out]; simp [hd,h0,h4,h10,h9,h2,h5,hc],HPd.out,HL.out⟩
  cases hd : (d == 0)
  ·skip
   cases sh
   ·skip
    cases h2 : (op == 2)
    ·skip
     go_wp2_with fail
     go_quiet ((go_at_call 97; refine Calls.quiet_of_same (HCM.out _)))
     go_wp2;go_meet
     case rel => exact ⟨by rw [← HS.out,show zaB op x d = false by unfold zaB; rw [HSH.out,HM.out]; simp [hd,h2,h5]],HP0.out.step (zad (Below.refl _ _) nq),HL0.out.trans ((zad (Below.refl _ _) nq).mono HL0.out.size)⟩
    ·skip
     cases hc : (d == 1)
     ·skip
      go_wp2_with fail
      go_quiet ((go_at_call 97; refine Calls.quiet_of_same (HCM.out _)))
      go_wp2;go_meet
      case rel => exact ⟨by rw [← HS.out,show zaB op x d = false by unfold zaB; rw [HSH.out,HM.out]; simp [hd,h2,h5,hc]],HP0.out.step (zad (Below.refl _ _) nq),HL0.out.trans ((zad (Below.refl _ _) nq).mono HL0.out.size)⟩
     ·skip
      go_wp2_with fail
      go_quiet ((go_at_call 97; refine Calls.quiet_of_same (HCM.out _)))
      go_wp2;go_meet
      case rel => exact ⟨by rw [← HS.out,show zaB op x d = true by unfold zaB; rw [HSH.out,HM.out]; simp [hd,h2,h5,hc]],HP0.out.step (zad (Below.refl _ _) nq),HL0.out.trans ((zad (Below.refl _ _) nq).mono HL0.out.size)⟩
   ·skip
    have h2 : (op == 2) = false := by have q := HSH.out; unfold zai at q; cases e : (op == 2) with
     | false => rfl
     | true => simp at e; subst e; simp at q
    cases hz : (bits .and .u64 d (x - 1) == 0)
    ·skip
     go_wp2_with fail
     go_quiet ((go_at_call 97; refine Calls.quiet_of_same (HCM.out _)))
     go_wp2;go_meet
     case rel => exact ⟨by rw [← HS.out,show zaB op x d = false by unfold zaB; rw [HSH.out,HM.out]; simp [hd,hz,h2,h5]],HP0.out.step (zad (Below.refl _ _) nq),HL0.out.trans ((zad (Below.refl _ _) nq).mono HL0.out.size)⟩
    ·skip
     go_wp2_with fail
     go_quiet ((go_at_call 97; refine Calls.quiet_of_same (HCM.out _)))
     go_wp2;go_meet
     case rel => exact ⟨by rw [← HS.out,show zaB op x d = true by unfold zaB; rw [HSH.out,HM.out]; simp [hd,hz]],HP0.out.step (zad (Below.refl _ _) nq),HL0.out.trans ((zad (Below.refl _ _) nq).mono HL0.out.size)⟩
  ·skip
   cases h0 : (op == 0)
   ·skip
    cases h4 : (op == 4)
    ·skip
     cases h10 : (op == 10)
     ·skip
      cases h9 : (op == 9)
      ·skip
       have hd1 : (d == 1) = false := by simp at hd; subst hd; rfl
       cases sh
       ·skip
        cases h2 : (op == 2)
        ·skip
         go_wp2_with fail
         go_quiet ((go_at_call 97; refine Calls.quiet_of_same (HCM.out _)))
         go_wp2;go_meet
         case rel => exact ⟨by rw [← HS.out,show zaB op x d = false by unfold zaB; rw [HSH.out,HM.out]; simp [hd,h0,h4,h10,h9,h2,h5]],HP0.out.step (zad (Below.refl _ _) nq),HL0.out.trans ((zad (Below.refl _ _) nq).mono HL0.out.size)⟩
        ·skip
         go_wp2_with fail
         go_quiet ((go_at_call 97; refine Calls.quiet_of_same (HCM.out _)))
         go_wp2;go_meet
         case rel => exact ⟨by rw [← HS.out,show zaB op x d = false by unfold zaB; rw [HSH.out,HM.out]; simp [hd,h0,h4,h10,h9,h2,h5,hd1]],HP0.out.step (zad (Below.refl _ _) nq),HL0.out.trans ((zad (Below.refl _ _) nq).mono HL0.out.size)⟩
       ·skip
        have h2 : (op == 2) = false := by have q := HSH.out; unfold zai at q; cases e : (op == 2) with
         | false => rfl
         | true => simp at e; subst e; simp at q
        cases hz : (bits .and .u64 d (x - 1) == 0)
        ·skip
         go_wp2_with fail
         go_quiet ((go_at_call 97; refine Calls.quiet_of_same (HCM.out _)))
         go_wp2;go_meet
         case rel => exact ⟨by rw [← HS.out,show zaB op x d = false by unfold zaB; rw [HSH.out,HM.out]; simp [hd,h0,h4,h10,h9,hz,h2,h5]],HP0.out.step (zad (Below.refl _ _) nq),HL0.out.trans ((zad (Below.refl _ _) nq).mono HL0.out.size)⟩
        ·skip
         go_wp2_with fail
         go_quiet ((go_at_call 97; refine Calls.quiet_of_same (HCM.out _)))
         go_wp2;go_meet
         case rel => exact ⟨by rw [← HS.out,show zaB op x d = true by unfold zaB; rw [HSH.out,HM.out]; simp [hd,h0,h4,h10,h9,hz]],HP0.out.step (zad (Below.refl _ _) nq),HL0.out.trans ((zad (Below.refl _ _) nq).mono HL0.out.size)⟩
      ·skip
       go_wp2_with fail
       go_quiet ((go_at_call 97; refine Calls.quiet_of_same (HCM.out _)))
       go_wp2;go_meet
       case rel => exact ⟨by rw [← HS.out,show zaB op x d = true by unfold zaB; rw [HSH.out,HM.out]; simp [hd,h0,h4,h10,h9]],HP0.out.step (zad (Below.refl _ _) nq),HL0.out.trans ((zad (Below.refl _ _) nq).mono HL0.out.size)⟩
     ·skip
      go_wp2_with fail
      go_quiet ((go_at_call 97; refine Calls.quiet_of_same (HCM.out _)))
      go_wp2;go_meet
      case rel => exact ⟨by rw [← HS.out,show zaB op x d = true by unfold zaB; rw [HSH.out,HM.out]; simp [hd,h0,h4,h10]],HP0.out.step (zad (Below.refl _ _) nq),HL0.out.trans ((zad (Below.refl _ _) nq).mono HL0.out.size)⟩
    ·skip
     go_wp2_with fail
     go_quiet ((go_at_call 97; refine Calls.quiet_of_same (HCM.out _)))
     go_wp2;go_meet
     case rel => exact ⟨by rw [← HS.out,show zaB op x d = true by unfold zaB; rw [HSH.out,HM.out]; simp [hd,h0,h4]],HP0.out.step (zad (Below.refl _ _) nq),HL0.out.trans ((zad (Below.refl _ _) nq).mono HL0.out.size)⟩
   ·skip
    go_wp2_with fail
    go_quiet ((go_at_call 97; refine Calls.quiet_of_same (HCM.out _)))
    go_wp2;go_meet
    case rel => exact ⟨by rw [← HS.out,show zaB op x d = true by unfold zaB; rw [HSH.out,HM.out]; simp [hd,h0]],HP0.out.step (zad (Below.refl _ _) nq),HL0.out.trans ((zad (Below.refl _ _) nq).mono HL0.out.size)⟩
 case rest =>
  obtain ⟨rfl,hpg,hl⟩ := hcut;have HP0 := Hd hpg
  have HL0 := Hd hl
  clear hpg hl
  by_cases hq : (rt && S) = true;rotate_left
  ·cases rt <;> cases S <;> first | exact absurd rfl hq | clear hq
   all_goals
    have c20 := (HP0.out.blk HE.out.e20.1 HE.out.e20.2).1.cell 0;have c22 := (HP0.out.blk HE.out.e22.1 HE.out.e22.2).1.cell 0;have c8 := (HP0.out.blk HE.out.e8.1 HE.out.e8.2).1.cell 0;simp at c20 c22 c8;go_wp2_with fail
    refine (zgT _ _ _ _).mono ?_;rintro e w8 ⟨rfl,rfl⟩;have hb8 : Below wc.heap.size wc (wc.alloc (.cells #[.int .i64 a] 3)) := (Below.refl _ _).alloc (ztn _) _;have HBX := Hd (Blk.new wc 3 #[.int .i64 a])
    have HPd := Hd (HP0.out.step hb8)
    have HL := Hd (HL0.out.trans (hb8.mono HL0.out.size))
    clear hb8 c20 c22 c8 HP0 HL0;obtain ⟨bx,hbx⟩ : ∃ b,wc.heap.size = b := ⟨_,rfl⟩;rw [hbx] at HBX ⊢;clear hbx;generalize wc.alloc (.cells #[.int .i64 a] 3) = w8 at HPd HL HBX ⊢;go_wp2_with fail
    refine (zbL _ _).mono ?_;rintro e w9 ⟨rfl,rfl⟩;go_wp2;exact bodyPost_ret (v := .tuple #[.int .i64 0,.bool false,.int .i64 0]) (by simp [results,results132,go_sem]) rfl (.inl ⟨rfl,rfl,HL.out⟩)
  ·obtain ⟨rfl,rfl⟩ : rt = true ∧ S = true := by simpa using hq
   clear hq;have HR := Hd (HRI.out rfl)
   have c20 := (HP0.out.blk HE.out.e20.1 HE.out.e20.2).1.cell 0;have c22 := (HP0.out.blk HE.out.e22.1 HE.out.e22.2).1.cell 0;have c8 := (HP0.out.blk HE.out.e8.1 HE.out.e8.2).1.cell 0;simp at c20 c22 c8;go_wp2_with fail
   refine (zgT _ _ _ _).mono ?_;rintro e w8 ⟨rfl,rfl⟩;have hb8 : Below wc.heap.size wc (wc.alloc (.cells #[.int .i64 a] 3)) := (Below.refl _ _).alloc (ztn _) _;have HBX := Hd (Blk.new wc 3 #[.int .i64 a])
   have HPd := Hd (HP0.out.step hb8)
   have HL := Hd (HL0.out.trans (hb8.mono HL0.out.size))
   clear hb8 c20 c22 c8 HP0 HL0;obtain ⟨bx,hbx⟩ : ∃ b,wc.heap.size = b := ⟨_,rfl⟩;rw [hbx] at HBX ⊢;clear hbx;generalize wc.alloc (.cells #[.int .i64 a] 3) = w8 at HPd HL HBX ⊢;go_wp2_with fail
   have H := Hd (ziS (F := F) x _ HX.out HN.out f r HR.out b15 b7 bx w8 HPd.out.pool (zto HB.out HPd.out.size) (HPd.out.blk HE.out.e15.1 HE.out.e15.2).1 (HPd.out.blk HE.out.e7.1 HE.out.e7.2).1 HBX.out)
   refine (zcj 117 _ _ (RR base g F W r) zgf (H.out.mono fun e w' q => RR.of (zbT.from HPd.out q))).mono ?_;rintro e w9 ⟨n,m,rfl,hrr⟩;have HRR := Hd hrr
   clear hrr;go_wp2;exact bodyPost_ret (v := .tuple #[.int .i64 n,.bool true,.int .i64 m]) (by simp [results,results132,go_sem]) rfl (.inr ⟨rfl,n,m,rfl,HRR.out⟩)
end
end
section
theorem zjy : za1 120 := enters_of func120 (by kernel_rfl) rfl
theorem zjz : za1 122 := enters_of func122 (by kernel_rfl) rfl
theorem zjA : za1 124 := enters_of func124 (by kernel_rfl) rfl
theorem zjB : za1 125 := enters_of func125 (by kernel_rfl) rfl
theorem zjC : za1 127 := enters_of func127 (by kernel_rfl) rfl
theorem zjD : za1 129 := enters_of func129 (by kernel_rfl) rfl
theorem zjE : za1 132 := enters_of func132 (by kernel_rfl) rfl
theorem zhR : za1 133 := enters_of func133 (by kernel_rfl) rfl
theorem zhS : za1 134 := enters_of func134 (by kernel_rfl) rfl
theorem zhT : za1 135 := enters_of func135 (by kernel_rfl) rfl
theorem zl2 : za1 136 := enters_of func136 (by kernel_rfl) rfl
def zl3 (b5 b6 b7 b8 b9 b15 b17 b18 b19 b20 b21 b22 b23 b24 : Nat) : List Value := [.func (.func 120) #[] #[.pointer (some ⟨b6,0,none⟩),.pointer (some ⟨b7,0,none⟩),.pointer (some ⟨b17,0,none⟩),.pointer (some ⟨b19,0,none⟩),.pointer (some ⟨b18,0,none⟩),.pointer (some ⟨b20,0,none⟩),.pointer (some ⟨b21,0,none⟩)],.func (.func 122) #[] #[.pointer (some ⟨b6,0,none⟩),.pointer (some ⟨b5,0,none⟩),.pointer (some ⟨b7,0,none⟩),.pointer (some ⟨b8,0,none⟩)],.func (.func 124) #[] #[.pointer (some ⟨b6,0,none⟩),.pointer (some ⟨b22,0,none⟩),.pointer (some ⟨b9,0,none⟩)],.func (.func 125) #[] #[.pointer (some ⟨b6,0,none⟩),.pointer (some ⟨b20,0,none⟩),.pointer (some ⟨b5,0,none⟩),.pointer (some ⟨b19,0,none⟩),.pointer (some ⟨b7,0,none⟩),.pointer (some ⟨b8,0,none⟩)],.func (.func 127) #[] #[.pointer (some ⟨b23,0,none⟩),.pointer (some ⟨b18,0,none⟩),.pointer (some ⟨b20,0,none⟩),.pointer (some ⟨b9,0,none⟩),.pointer (some ⟨b8,0,none⟩),.pointer (some ⟨b5,0,none⟩),.pointer (some ⟨b6,0,none⟩),.pointer (some ⟨b7,0,none⟩)],.func (.func 129) #[] #[.pointer (some ⟨b15,0,none⟩),.pointer (some ⟨b8,0,none⟩),.pointer (some ⟨b6,0,none⟩),.pointer (some ⟨b20,0,none⟩),.pointer (some ⟨b7,0,none⟩),.pointer (some ⟨b5,0,none⟩),.pointer (some ⟨b19,0,none⟩)],.func (.func 132) #[] #[.pointer (some ⟨b19,0,none⟩),.pointer (some ⟨b6,0,none⟩),.pointer (some ⟨b24,0,none⟩),.pointer (some ⟨b7,0,none⟩),.pointer (some ⟨b20,0,none⟩),.pointer (some ⟨b22,0,none⟩),.pointer (some ⟨b8,0,none⟩)],.func (.func 133) #[] #[.pointer (some ⟨b20,0,none⟩),.pointer (some ⟨b19,0,none⟩),.pointer (some ⟨b6,0,none⟩),.pointer (some ⟨b21,0,none⟩)],.func (.func 134) #[] #[.pointer (some ⟨b8,0,none⟩),.pointer (some ⟨b9,0,none⟩),.pointer (some ⟨b6,0,none⟩),.pointer (some ⟨b21,0,none⟩)],.func (.func 135) #[] #[.pointer (some ⟨b8,0,none⟩),.pointer (some ⟨b9,0,none⟩),.pointer (some ⟨b6,0,none⟩),.pointer (some ⟨b22,0,none⟩)]]
section
variable {base f g : Nat}{op x a b : Int}{s y : TD}{b5 b6 b7 b8 b9 b15 b17 b18 b19 b20 b21 b22 b23 b24 : Nat}{F : Nat → Prop}{W : World}{p : PS}{r : RS}
theorem zs3 {A B C D : Prop}(h : (A ∧ B) ∨ (C ∧ D))(hn : ¬ C) : B := h.elim And.right fun q => absurd q.1 hn
theorem zrx {A B C D : Prop}(h : (A ∧ B) ∨ (C ∧ D))(hn : ¬ A) : D := h.elim (fun q => absurd q.1 hn) And.right
theorem zl4 (hE : OpE g op x a b s.n y.n (s.kind == 0) (y.kind == 0) (zaK op) (zai op) b5 b6 b7 b8 b9 b15 b17 b18 b19 b20 b21 b22 b23 b24 F W)(hp : zam W base F g p)(hbase : base ≤ W.heap.size)(hIH : OpC base g f)(hs : atP p.T a = s)(hy : atP p.T b = y)(ha : I64 a)(hb : I64 b)(hOk : zdp op x = true)(hr : opL (fun q o u v => opF f q o x u v) f p op x a b = some r) :
  ∃ j,j ≤ 10 ∧ (∀ i v,i < j → (zl3 b5 b6 b7 b8 b9 b15 b17 b18 b19 b20 b21 b22 b23 b24)[i]? = some v → zfn W v) ∧ (∀ v,(zl3 b5 b6 b7 b8 b9 b15 b17 b18 b19 b20 b21 b22 b23 b24)[j]? = some v → zpM W (RR base g F W r) v) ∧ (j = 10 → zpN W (RR base g F W r) (.func (.func 136) #[] #[.pointer (some ⟨b5,0,none⟩),.pointer (some ⟨b6,0,none⟩),.pointer (some ⟨b7,0,none⟩),.pointer (some ⟨b8,0,none⟩),.pointer (some ⟨b9,0,none⟩)])) := by
 have hx := (zbE hOk).1;have hx4 : x = 8 ∨ x = 16 ∨ x = 32 ∨ x = 64 := by omega
 have ho := (zbE hOk).2;have hsw : s.wf := by rw [← hs]; exact zba hp.rng a
 have hyw : y.wf := by rw [← hy]; exact zba hp.rng b
 have hUa : U64 s.n := hsw.2.2.2.1;have hUb : U64 y.n := hyw.2.2.2.1;have hsa : I64 s.a := hsw.2.2.2.2.1;unfold opL at hr;rw [hs,hy] at hr;dsimp only at hr;have rr : ∀ {W' W2 : World} {n m : Int} (hb : Below W.heap.size W W') (q : RR base g F W' r n m W2),RR base g F W r n m W2 := fun hb q => q.from (PG.of_below hp hb)
 have bs : ∀ {W' : World} (hb : Below W.heap.size W W'),base ≤ W'.heap.size := fun hb => zto hbase hb.size
 have n3 : (s.kind == 0 && y.kind == 0) = false → zfn W (.func (.func 120) #[] #[.pointer (some ⟨b6,0,none⟩),.pointer (some ⟨b7,0,none⟩),.pointer (some ⟨b17,0,none⟩),.pointer (some ⟨b19,0,none⟩),.pointer (some ⟨b18,0,none⟩),.pointer (some ⟨b20,0,none⟩),.pointer (some ⟨b21,0,none⟩)]) := fun hf => ⟨_,_,rfl,zjy,fun W' hb => zqf (hE.below hb) (hp.below hb) hOk hUa hUb hf⟩
 have n4 : (op == 8) = false → zfn W (.func (.func 122) #[] #[.pointer (some ⟨b6,0,none⟩),.pointer (some ⟨b5,0,none⟩),.pointer (some ⟨b7,0,none⟩),.pointer (some ⟨b8,0,none⟩)]) := fun hf => ⟨_,_,rfl,zjz,fun W' hb => zqD (hE.below hb) (hp.below hb) hf⟩
 have n5 : (op == 11) = false → zfn W (.func (.func 124) #[] #[.pointer (some ⟨b6,0,none⟩),.pointer (some ⟨b22,0,none⟩),.pointer (some ⟨b9,0,none⟩)]) := fun hf => ⟨_,_,rfl,zjA,fun W' hb => zqg (hE.below hb) (hp.below hb) hf⟩
 have n6 : (op == 1 && y.kind == 0) = false → zfn W (.func (.func 125) #[] #[.pointer (some ⟨b6,0,none⟩),.pointer (some ⟨b20,0,none⟩),.pointer (some ⟨b5,0,none⟩),.pointer (some ⟨b19,0,none⟩),.pointer (some ⟨b7,0,none⟩),.pointer (some ⟨b8,0,none⟩)]) := fun hf => ⟨_,_,rfl,zjB,fun W' hb => zqE (hE.below hb) (hp.below hb) hf⟩
 have n7 : (zaK op && (s.kind == 0 || (!(y.kind == 0) && decide (b < a)))) = false → zfn W (.func (.func 127) #[] #[.pointer (some ⟨b23,0,none⟩),.pointer (some ⟨b18,0,none⟩),.pointer (some ⟨b20,0,none⟩),.pointer (some ⟨b9,0,none⟩),.pointer (some ⟨b8,0,none⟩),.pointer (some ⟨b5,0,none⟩),.pointer (some ⟨b6,0,none⟩),.pointer (some ⟨b7,0,none⟩)]) := fun hf => ⟨_,_,rfl,zjC,fun W' hb => zqF (hE.below hb) (hp.below hb) hf⟩
 have n8 : zb5 p.T s op x (y.kind == 0) = false → zfn W (.func (.func 129) #[] #[.pointer (some ⟨b15,0,none⟩),.pointer (some ⟨b8,0,none⟩),.pointer (some ⟨b6,0,none⟩),.pointer (some ⟨b20,0,none⟩),.pointer (some ⟨b7,0,none⟩),.pointer (some ⟨b5,0,none⟩),.pointer (some ⟨b19,0,none⟩)]) := fun hf => ⟨_,_,rfl,zjD,fun W' hb => zqG (hE.below hb) (hp.below hb) s hs _ _ rfl hf⟩
 have n9 : (y.kind == 0 && zaB op x y.n) = false → zfn W (.func (.func 132) #[] #[.pointer (some ⟨b19,0,none⟩),.pointer (some ⟨b6,0,none⟩),.pointer (some ⟨b24,0,none⟩),.pointer (some ⟨b7,0,none⟩),.pointer (some ⟨b20,0,none⟩),.pointer (some ⟨b22,0,none⟩),.pointer (some ⟨b8,0,none⟩)]) := fun hf => ⟨_,_,rfl,zjE,fun W' hb =>
  (zjx (f := f) (r := r) (hE.below hb) (hp.below hb) (bs hb) hx rfl ha (fun q => by rw [hf] at q; cases q)).mono fun e w' q => zs3 q (by rw [hf]; simp)⟩
 have n10 : (y.kind == 0 && ziu op y.n) = false → zfn W (.func (.func 133) #[] #[.pointer (some ⟨b20,0,none⟩),.pointer (some ⟨b19,0,none⟩),.pointer (some ⟨b6,0,none⟩),.pointer (some ⟨b21,0,none⟩)]) := fun hf => ⟨_,_,rfl,zhR,fun W' hb => zoh (hE.below hb) (hp.below hb) hf⟩
 have n11 : (a == b && (op == 1 || op == 10)) = false → zfn W (.func (.func 134) #[] #[.pointer (some ⟨b8,0,none⟩),.pointer (some ⟨b9,0,none⟩),.pointer (some ⟨b6,0,none⟩),.pointer (some ⟨b21,0,none⟩)]) := fun hf => ⟨_,_,rfl,zhS,fun W' hb => zoi (hE.below hb) (hp.below hb) hf⟩
 have n12 : (a == b && (op == 5 || op == 4)) = false → zfn W (.func (.func 135) #[] #[.pointer (some ⟨b8,0,none⟩),.pointer (some ⟨b9,0,none⟩),.pointer (some ⟨b6,0,none⟩),.pointer (some ⟨b22,0,none⟩)]) := fun hf => ⟨_,_,rfl,zhT,fun W' hb => zoj (hE.below hb) (hp.below hb) hf⟩
 have hb2 := hb;clear hb
 cases h3 : (s.kind == 0 && y.kind == 0);rotate_left
 ·have hq := hr
  rw [if_pos h3] at hq;have hf := h3;injection hq with hq
  refine ⟨0,by omega,fun i v hi _ => absurd hi (by omega),fun v hv => ?_,fun e => absurd e (by omega)⟩;injection hv with hv
  subst hv;exact ⟨_,_,rfl,zjy,fun W' hb => (zof (hE.below hb) (hp.below hb) hOk hUa hUb (bs hb) hq hf).mono fun e w' ⟨n,m,e1,q⟩ => ⟨n,m,e1,rr hb q⟩⟩
 cases h4 : (op == 8);rotate_left
 ·have hq := hr
  rw [if_neg (by rw [h3]; simp),if_pos (show op = 8 by simpa using h4)] at hq;have hf := h4;refine ⟨1,by omega,fun i v hi hv => by
   obtain rfl : i = 0 := by omega
   injection hv with hv
   subst hv;exact n3 h3,fun v hv => ?_,fun e => absurd e (by omega)⟩
  injection hv with hv
  subst hv;exact ⟨_,_,rfl,zjz,fun W' hb => (zoP (hE.below hb) (hp.below hb) (bs hb) hIH ha hq hf).mono fun e w' ⟨n,m,e1,q⟩ => ⟨n,m,e1,rr hb q⟩⟩
 cases h5 : (op == 11);rotate_left
 ·have hq := hr
  rw [if_neg (by rw [h3]; simp),if_neg (show ¬ op = 8 by simpa using h4),if_pos (show op = 11 by simpa using h5)] at hq;have hf := h5;refine ⟨2,by omega,fun i v hi hv => by
   rcases (show i = 0 ∨ i = 1 by omega) with rfl | rfl
   ·injection hv with hv
    subst hv;exact n3 h3
   ·injection hv with hv
    subst hv;exact n4 h4,fun v hv => ?_,fun e => absurd e (by omega)⟩
  injection hv with hv
  subst hv;exact ⟨_,_,rfl,zjA,fun W' hb => (zog (hE.below hb) (hp.below hb) (bs hb) hx4 hb2 hq hf).mono fun e w' ⟨n,m,e1,q⟩ => ⟨n,m,e1,rr hb q⟩⟩
 cases h6 : (op == 1 && y.kind == 0);rotate_left
 ·have hq := hr
  rw [if_neg (by rw [h3]; simp),if_neg (show ¬ op = 8 by simpa using h4),if_neg (show ¬ op = 11 by simpa using h5),if_pos h6] at hq;have hf := h6;refine ⟨3,by omega,fun i v hi hv => by
   rcases (show i = 0 ∨ i = 1 ∨ i = 2 by omega) with rfl | rfl | rfl
   ·injection hv with hv
    subst hv;exact n3 h3
   ·injection hv with hv
    subst hv;exact n4 h4
   ·injection hv with hv
    subst hv;exact n5 h5,fun v hv => ?_,fun e => absurd e (by omega)⟩
  injection hv with hv
  subst hv;exact ⟨_,_,rfl,zjB,fun W' hb => (zoQ (hE.below hb) (hp.below hb) (bs hb) hIH ha hq hf).mono fun e w' ⟨n,m,e1,q⟩ => ⟨n,m,e1,rr hb q⟩⟩
 cases h7 : (zaK op && (s.kind == 0 || (!(y.kind == 0) && decide (b < a))));rotate_left
 ·have hq := hr
  rw [if_neg (by rw [h3]; simp),if_neg (show ¬ op = 8 by simpa using h4),if_neg (show ¬ op = 11 by simpa using h5),if_neg (by rw [h6]; simp),if_pos h7] at hq;have hf := h7;refine ⟨4,by omega,fun i v hi hv => by
   rcases (show i = 0 ∨ i = 1 ∨ i = 2 ∨ i = 3 by omega) with rfl | rfl | rfl | rfl
   ·injection hv with hv
    subst hv;exact n3 h3
   ·injection hv with hv
    subst hv;exact n4 h4
   ·injection hv with hv
    subst hv;exact n5 h5
   ·injection hv with hv
    subst hv;exact n6 h6,fun v hv => ?_,fun e => absurd e (by omega)⟩
  injection hv with hv
  subst hv;exact ⟨_,_,rfl,zjC,fun W' hb => (zoR (hE.below hb) (hp.below hb) (bs hb) hIH ha hb2 hq hf).mono fun e w' ⟨n,m,e1,q⟩ => ⟨n,m,e1,rr hb q⟩⟩
 cases h8 : zb5 p.T s op x (y.kind == 0);rotate_left
 ·have hq := hr
  rw [if_neg (by rw [h3]; simp),if_neg (show ¬ op = 8 by simpa using h4),if_neg (show ¬ op = 11 by simpa using h5),if_neg (by rw [h6]; simp),if_neg (by rw [h7]; simp),if_pos h8] at hq;have hf := h8;refine ⟨5,by omega,fun i v hi hv => by
   rcases (show i = 0 ∨ i = 1 ∨ i = 2 ∨ i = 3 ∨ i = 4 by omega) with rfl | rfl | rfl | rfl | rfl
   ·injection hv with hv
    subst hv;exact n3 h3
   ·injection hv with hv
    subst hv;exact n4 h4
   ·injection hv with hv
    subst hv;exact n5 h5
   ·injection hv with hv
    subst hv;exact n6 h6
   ·injection hv with hv
    subst hv;exact n7 h7,fun v hv => ?_,fun e => absurd e (by omega)⟩
  injection hv with hv
  subst hv;exact ⟨_,_,rfl,zjD,fun W' hb => (zoU (hE.below hb) (hp.below hb) (bs hb) hIH s hs _ _ rfl hf hq).mono fun e w' ⟨n,m,e1,q⟩ => ⟨n,m,e1,rr hb q⟩⟩
 cases h9 : (y.kind == 0 && zaB op x y.n);rotate_left
 ·have hq := hr
  rw [if_neg (by rw [h3]; simp),if_neg (show ¬ op = 8 by simpa using h4),if_neg (show ¬ op = 11 by simpa using h5),if_neg (by rw [h6]; simp),if_neg (by rw [h7]; simp),if_neg (by rw [h8]; simp),if_pos h9] at hq;have hf := h9;refine ⟨6,by omega,fun i v hi hv => by
   rcases (show i = 0 ∨ i = 1 ∨ i = 2 ∨ i = 3 ∨ i = 4 ∨ i = 5 by omega) with rfl | rfl | rfl | rfl | rfl | rfl
   ·injection hv with hv
    subst hv;exact n3 h3
   ·injection hv with hv
    subst hv;exact n4 h4
   ·injection hv with hv
    subst hv;exact n5 h5
   ·injection hv with hv
    subst hv;exact n6 h6
   ·injection hv with hv
    subst hv;exact n7 h7
   ·injection hv with hv
    subst hv;exact n8 h8,fun v hv => ?_,fun e => absurd e (by omega)⟩
  injection hv with hv
  subst hv;exact ⟨_,_,rfl,zjE,fun W' hb => ((zjx (f := f) (r := r) (hE.below hb) (hp.below hb) (bs hb) hx rfl ha (fun _ => hq)).mono fun e w' q => zrx q (by rw [hf]; simp)).mono fun e w' ⟨n,m,e1,q⟩ => ⟨n,m,e1,rr hb q⟩⟩
 cases h10 : (y.kind == 0 && ziu op y.n);rotate_left
 ·have hq := hr
  rw [if_neg (by rw [h3]; simp),if_neg (show ¬ op = 8 by simpa using h4),if_neg (show ¬ op = 11 by simpa using h5),if_neg (by rw [h6]; simp),if_neg (by rw [h7]; simp),if_neg (by rw [h8]; simp),if_neg (by rw [h9]; simp),if_pos h10] at hq;have hf := h10;injection hq with hq
  refine ⟨7,by omega,fun i v hi hv => by
   rcases (show i = 0 ∨ i = 1 ∨ i = 2 ∨ i = 3 ∨ i = 4 ∨ i = 5 ∨ i = 6 by omega) with rfl | rfl | rfl | rfl | rfl | rfl | rfl
   ·injection hv with hv
    subst hv;exact n3 h3
   ·injection hv with hv
    subst hv;exact n4 h4
   ·injection hv with hv
    subst hv;exact n5 h5
   ·injection hv with hv
    subst hv;exact n6 h6
   ·injection hv with hv
    subst hv;exact n7 h7
   ·injection hv with hv
    subst hv;exact n8 h8
   ·injection hv with hv
    subst hv;exact n9 h9,fun v hv => ?_,fun e => absurd e (by omega)⟩
  injection hv with hv
  subst hv;exact ⟨_,_,rfl,zhR,fun W' hb => (zl5 (hE.below hb) (hp.below hb) (bs hb) hq hf).mono fun e w' ⟨n,m,e1,q⟩ => ⟨n,m,e1,rr hb q⟩⟩
 cases h11 : (a == b && (op == 1 || op == 10));rotate_left
 ·have hq := hr
  rw [if_neg (by rw [h3]; simp),if_neg (show ¬ op = 8 by simpa using h4),if_neg (show ¬ op = 11 by simpa using h5),if_neg (by rw [h6]; simp),if_neg (by rw [h7]; simp),if_neg (by rw [h8]; simp),if_neg (by rw [h9]; simp),if_neg (by rw [h10]; simp),if_pos h11] at hq;have hf := h11;injection hq with hq
  refine ⟨8,by omega,fun i v hi hv => by
   rcases (show i = 0 ∨ i = 1 ∨ i = 2 ∨ i = 3 ∨ i = 4 ∨ i = 5 ∨ i = 6 ∨ i = 7 by omega) with rfl | rfl | rfl | rfl | rfl | rfl | rfl | rfl
   ·injection hv with hv
    subst hv;exact n3 h3
   ·injection hv with hv
    subst hv;exact n4 h4
   ·injection hv with hv
    subst hv;exact n5 h5
   ·injection hv with hv
    subst hv;exact n6 h6
   ·injection hv with hv
    subst hv;exact n7 h7
   ·injection hv with hv
    subst hv;exact n8 h8
   ·injection hv with hv
    subst hv;exact n9 h9
   ·injection hv with hv
    subst hv;exact n10 h10,fun v hv => ?_,fun e => absurd e (by omega)⟩
  injection hv with hv
  subst hv;exact ⟨_,_,rfl,zhS,fun W' hb => (zl6 (hE.below hb) (hp.below hb) (bs hb) hq hf).mono fun e w' ⟨n,m,e1,q⟩ => ⟨n,m,e1,rr hb q⟩⟩
 cases h12 : (a == b && (op == 5 || op == 4));rotate_left
 ·have hq := hr
  rw [if_neg (by rw [h3]; simp),if_neg (show ¬ op = 8 by simpa using h4),if_neg (show ¬ op = 11 by simpa using h5),if_neg (by rw [h6]; simp),if_neg (by rw [h7]; simp),if_neg (by rw [h8]; simp),if_neg (by rw [h9]; simp),if_neg (by rw [h10]; simp),if_neg (by rw [h11]; simp),if_pos h12] at hq;have hf := h12;refine ⟨9,by omega,fun i v hi hv => by
   rcases (show i = 0 ∨ i = 1 ∨ i = 2 ∨ i = 3 ∨ i = 4 ∨ i = 5 ∨ i = 6 ∨ i = 7 ∨ i = 8 by omega) with rfl | rfl | rfl | rfl | rfl | rfl | rfl | rfl | rfl
   ·injection hv with hv
    subst hv;exact n3 h3
   ·injection hv with hv
    subst hv;exact n4 h4
   ·injection hv with hv
    subst hv;exact n5 h5
   ·injection hv with hv
    subst hv;exact n6 h6
   ·injection hv with hv
    subst hv;exact n7 h7
   ·injection hv with hv
    subst hv;exact n8 h8
   ·injection hv with hv
    subst hv;exact n9 h9
   ·injection hv with hv
    subst hv;exact n10 h10
   ·injection hv with hv
    subst hv;exact n11 h11,fun v hv => ?_,fun e => absurd e (by omega)⟩
  injection hv with hv
  subst hv;exact ⟨_,_,rfl,zhT,fun W' hb => (zl7 (hE.below hb) (hp.below hb) (bs hb) hx4 ha hq hf).mono fun e w' ⟨n,m,e1,q⟩ => ⟨n,m,e1,rr hb q⟩⟩
 ·have hq := hr
  rw [if_neg (by rw [h3]; simp),if_neg (show ¬ op = 8 by simpa using h4),if_neg (show ¬ op = 11 by simpa using h5),if_neg (by rw [h6]; simp),if_neg (by rw [h7]; simp),if_neg (by rw [h8]; simp),if_neg (by rw [h9]; simp),if_neg (by rw [h10]; simp),if_neg (by rw [h11]; simp),if_neg (by rw [h12]; simp)] at hq;injection hq with hq
  refine ⟨10,by omega,fun i v hi hv => by
   rcases (show i = 0 ∨ i = 1 ∨ i = 2 ∨ i = 3 ∨ i = 4 ∨ i = 5 ∨ i = 6 ∨ i = 7 ∨ i = 8 ∨ i = 9 by omega) with rfl | rfl | rfl | rfl | rfl | rfl | rfl | rfl | rfl | rfl
   ·injection hv with hv
    subst hv;exact n3 h3
   ·injection hv with hv
    subst hv;exact n4 h4
   ·injection hv with hv
    subst hv;exact n5 h5
   ·injection hv with hv
    subst hv;exact n6 h6
   ·injection hv with hv
    subst hv;exact n7 h7
   ·injection hv with hv
    subst hv;exact n8 h8
   ·injection hv with hv
    subst hv;exact n9 h9
   ·injection hv with hv
    subst hv;exact n10 h10
   ·injection hv with hv
    subst hv;exact n11 h11
   ·injection hv with hv
    subst hv;exact n12 h12,fun v hv => (by cases hv),fun _ => ?_⟩
  refine ⟨_,_,rfl,zl2,fun W' hb => ?_⟩;have := zoS (hE.below hb) (hp.below hb) (bs hb) (by unfold I8; omega) (by unfold I8; omega) ha hb2;rw [show putR p (opT op x a b) = r from hq] at this;exact this.mono fun e w' q => by
   obtain ⟨n,m,e1,q⟩ := RR.of q;exact ⟨n,m,e1,rr hb q⟩
end
end
end Go.Proofs.YtepagfkkjlbipaaGreat
