/- The laws of a store. -/
import Derived.Test.YtjkeapkpdgfhcaaSyH
import Derived.Test.YtjkeapkpdgfhcaaFrame
set_option linter.all false
namespace Go.Proofs.Ytjkeapkpdgfhcaa
open Go.RowKit

theorem put_len {f : Int} {l : List Bt} {b : Bt} (hl : l.length ≤ 13) : (putList f l b).length ≤ 14 := by
  unfold putList
  split
  · simp
  · rw [len_ins]; omega
  · omega
theorem FnStorePut_c (zs : List Int) (hz : ∀ z ∈ zs, 0 ≤ z ∧ z ≤ 255) : SRet Try.prog 4 [.sl 1 zs.length (rowF u8F zs)] (· = .b true) := ⟨fun R => by
  refine SCalls.enter tt_ok Try.func4 (by kernel_rfl) rfl [(900, .cust R)] rfl (argF _) (fun w F v k h => h) (by simp) ?_
  repeat' (first | with_reducible refine HT.seq ?_ | ((with_reducible refine HT.region tt_ok ?_); conv => whnf) | ((with_reducible refine HT.drawn tt_ok (by kernel_rfl) (by kernel_rfl) ?_); conv => whnf) | ((with_reducible refine HT.cond ?_); conv => whnf) | with_reducible refine HT.block ?_ | ((with_reducible refine HT.ret ?_); conv => whnf) | ((with_reducible refine HT.skip ?_); conv => whnf) | ((with_reducible refine HT.exit ?_); conv => whnf) | ((with_reducible refine Br.tt ?_); conv => whnf) | ((with_reducible refine Br.ff ?_); conv => whnf) | with_reducible refine Br.not ?_ | ((with_reducible refine Br.dec (fun hc => ?_) (fun hc => ?_)) <;> (first | (exfalso; omega) | conv => whnf)) | ((with_reducible refine Br.eq (fun hc => ?_) (fun hc => ?_)) <;> (first | (exfalso; omega) | conv => whnf)) | ((with_reducible refine Br.ne (fun hc => ?_) (fun hc => ?_)) <;> (first | (exfalso; omega) | conv => whnf)) | ((with_reducible refine Br.mk (fun hc => ?_) (fun hc => ?_)) <;> conv => whnf) | ((with_reducible refine Chk.mk (by first | omega | with_reducible rfl | (refine ⟨rfl, ?_⟩; omega) | decide | (refine ⟨rfl, by omega, by omega, rfl⟩) | (refine ⟨by assumption, rfl, by omega, by omega⟩)) ?_); conv => whnf) | ((with_reducible refine Ar.fit (by omega) ?_); conv => whnf) | (with_reducible exact trivial) | ((with_reducible refine And.intro ?_ ?_) <;> conv => whnf) | (intro gn; conv => whnf))
  · exact Fin.pure (A := []) rfl
  refine CallN.ret _ (drawPut_r zs hz (by omega)) ?_
  rintro r ⟨f, l, b, hl, rfl⟩
  conv => whnf
  have hpl := put_len (f := f) (b := b) hl
  repeat' (first | with_reducible refine HT.seq ?_ | ((with_reducible refine HT.region tt_ok ?_); conv => whnf) | ((with_reducible refine HT.drawn tt_ok (by kernel_rfl) (by kernel_rfl) ?_); conv => whnf) | ((with_reducible refine HT.cond ?_); conv => whnf) | with_reducible refine HT.block ?_ | ((with_reducible refine HT.ret ?_); conv => whnf) | ((with_reducible refine HT.skip ?_); conv => whnf) | ((with_reducible refine HT.exit ?_); conv => whnf) | ((with_reducible refine Br.tt ?_); conv => whnf) | ((with_reducible refine Br.ff ?_); conv => whnf) | with_reducible refine Br.not ?_ | ((with_reducible refine Br.dec (fun hc => ?_) (fun hc => ?_)) <;> (first | (exfalso; omega) | conv => whnf)) | ((with_reducible refine Br.eq (fun hc => ?_) (fun hc => ?_)) <;> (first | (exfalso; omega) | conv => whnf)) | ((with_reducible refine Br.ne (fun hc => ?_) (fun hc => ?_)) <;> (first | (exfalso; omega) | conv => whnf)) | ((with_reducible refine Br.mk (fun hc => ?_) (fun hc => ?_)) <;> conv => whnf) | ((with_reducible refine Chk.mk (by first | omega | with_reducible rfl | (refine ⟨rfl, ?_⟩; omega) | decide | (refine ⟨rfl, by omega, by omega, rfl⟩) | (refine ⟨by assumption, rfl, by omega, by omega⟩)) ?_); conv => whnf) | ((with_reducible refine Ar.fit (by omega) ?_); conv => whnf) | ((refine CallN.ret1 (implPut_r f l b (by omega)) ?_) <;> conv => whnf) | ((refine CallN.ret1 (specPut_r f l b (by omega)) ?_) <;> conv => whnf) | ((refine CallN.ret1 (sameStore_c (putFloor f l b) (putList f l b) (by omega)) ?_) <;> conv => whnf) | (with_reducible exact trivial) | ((with_reducible refine And.intro ?_ ?_) <;> conv => whnf) | (intro gn; conv => whnf))
  · exact Fin.pure (A := [_, _, _, _]) rfl
  rcases code_cases f l b with ⟨h4, _⟩ | ⟨⟨hv, hb⟩, ⟨h1, _⟩ | ⟨hno, ⟨h2, _⟩ | ⟨hr, ⟨h3, _⟩ | ⟨_, h12, hu⟩⟩⟩⟩
  · omega
  · omega
  · omega
  · omega
  have eL : putList f l b = insB l b := by unfold putList; rw [hc]; rfl
  have eF : putFloor f l b = f := by unfold putFloor; rw [hc]; rfl
  have hvi := stOk_ins hv hb hno hr h12 hu
  have hui : used (insB l b) b.a = used l b.a + b.s := by rw [used_ins]; simp
  have ha := btOk_auth hb
  have hs := btOk_size hb
  have hub := (stOk_usedW hv b.a)
  have hil := len_ins l b
  clear hpl
  rw [eL, eF]
  refine CallN.ret _ (storeGet_c f (insB l b) b.d (by omega) hvi) ?_
  rintro r (⟨b', hm, hd, rfl⟩ | ⟨hno', rfl⟩)
  · have e : b' = b := by
      rcases mem_ins hm with h | h
      · exact h
      · exact absurd hd (hno b' h)
    subst e
    conv => whnf
    repeat' (first | with_reducible refine HT.seq ?_ | ((with_reducible refine HT.region tt_ok ?_); conv => whnf) | ((with_reducible refine HT.drawn tt_ok (by kernel_rfl) (by kernel_rfl) ?_); conv => whnf) | ((with_reducible refine HT.cond ?_); conv => whnf) | with_reducible refine HT.block ?_ | ((with_reducible refine HT.ret ?_); conv => whnf) | ((with_reducible refine HT.skip ?_); conv => whnf) | ((with_reducible refine HT.exit ?_); conv => whnf) | ((with_reducible refine Br.tt ?_); conv => whnf) | ((with_reducible refine Br.ff ?_); conv => whnf) | with_reducible refine Br.not ?_ | ((with_reducible refine Br.dec (fun hc => ?_) (fun hc => ?_)) <;> (first | (exfalso; omega) | conv => whnf)) | ((with_reducible refine Br.eq (fun hc => ?_) (fun hc => ?_)) <;> (first | (exfalso; omega) | conv => whnf)) | ((with_reducible refine Br.ne (fun hc => ?_) (fun hc => ?_)) <;> (first | (exfalso; omega) | conv => whnf)) | ((with_reducible refine Br.mk (fun hc => ?_) (fun hc => ?_)) <;> conv => whnf) | ((with_reducible refine Chk.mk (by first | omega | with_reducible rfl | (refine ⟨rfl, ?_⟩; omega) | decide | (refine ⟨rfl, by omega, by omega, rfl⟩) | (refine ⟨by assumption, rfl, by omega, by omega⟩)) ?_); conv => whnf) | ((with_reducible refine Ar.fit (by omega) ?_); conv => whnf) | (refine CallN.ret1 (storeUsed_c f (insB l b') b'.a (by omega) hvi ha) ?_ <;> conv => whnf) | (refine CallN.ret1 (storeUsed_c f l b'.a (by omega) hv ha) ?_ <;> conv => whnf) | (refine CallN.ret1 (implStoreValid_c f (insB l b') (by omega)) ?_ <;> conv => whnf) | (with_reducible exact trivial) | ((with_reducible refine And.intro ?_ ?_) <;> conv => whnf) | (intro gn; conv => whnf))
    · exact Fin.pure (A := [_, _, _, _, _]) (by rw [hvi])
    · simp at hc
  · obtain ⟨x, hx, e⟩ := any_ins l b
    exact absurd (by rw [e]) (hno' x hx)⟩

set_option maxHeartbeats 2000000 in
theorem FnStoreCodes_c (zs : List Int) (hz : ∀ z ∈ zs, 0 ≤ z ∧ z ≤ 255) : SRet Try.prog 3 [.sl 1 zs.length (rowF u8F zs)] (· = .b true) := ⟨fun R => by
  refine SCalls.enter tt_ok Try.func3 (by kernel_rfl) rfl [(900, .cust R)] rfl (argF _) (fun w F v k h => h) (by simp) ?_
  repeat' (first | with_reducible refine HT.seq ?_ | ((with_reducible refine HT.region tt_ok ?_); conv => whnf) | ((with_reducible refine HT.drawn tt_ok (by kernel_rfl) (by kernel_rfl) ?_); conv => whnf) | ((with_reducible refine HT.cond ?_); conv => whnf) | with_reducible refine HT.block ?_ | ((with_reducible refine HT.ret ?_); conv => whnf) | ((with_reducible refine HT.skip ?_); conv => whnf) | ((with_reducible refine HT.exit ?_); conv => whnf) | ((with_reducible refine Br.tt ?_); conv => whnf) | ((with_reducible refine Br.ff ?_); conv => whnf) | with_reducible refine Br.not ?_ | ((with_reducible refine Br.dec (fun hc => ?_) (fun hc => ?_)) <;> (first | (exfalso; omega) | conv => whnf)) | ((with_reducible refine Br.eq (fun hc => ?_) (fun hc => ?_)) <;> (first | (exfalso; omega) | conv => whnf)) | ((with_reducible refine Br.ne (fun hc => ?_) (fun hc => ?_)) <;> (first | (exfalso; omega) | conv => whnf)) | ((with_reducible refine Br.mk (fun hc => ?_) (fun hc => ?_)) <;> conv => whnf) | ((with_reducible refine Chk.mk (by first | omega | with_reducible rfl | (refine ⟨rfl, ?_⟩; omega) | decide | (refine ⟨rfl, by omega, by omega, rfl⟩) | (refine ⟨by assumption, rfl, by omega, by omega⟩)) ?_); conv => whnf) | ((with_reducible refine Ar.fit (by omega) ?_); conv => whnf) | (with_reducible exact trivial) | ((with_reducible refine And.intro ?_ ?_) <;> conv => whnf) | (intro gn; conv => whnf))
  · exact Fin.pure (A := []) rfl
  refine CallN.ret _ (drawPut_r zs hz (by omega)) ?_
  rintro r ⟨f, l, b, hl, rfl⟩
  conv => whnf
  have hpl := put_len (f := f) (b := b) hl
  repeat' (first | with_reducible refine HT.seq ?_ | ((with_reducible refine HT.region tt_ok ?_); conv => whnf) | ((with_reducible refine HT.drawn tt_ok (by kernel_rfl) (by kernel_rfl) ?_); conv => whnf) | ((with_reducible refine HT.cond ?_); conv => whnf) | with_reducible refine HT.block ?_ | ((with_reducible refine HT.ret ?_); conv => whnf) | ((with_reducible refine HT.skip ?_); conv => whnf) | ((with_reducible refine HT.exit ?_); conv => whnf) | ((with_reducible refine Br.tt ?_); conv => whnf) | ((with_reducible refine Br.ff ?_); conv => whnf) | with_reducible refine Br.not ?_ | ((with_reducible refine Br.dec (fun hc => ?_) (fun hc => ?_)) <;> (first | (exfalso; omega) | conv => whnf)) | ((with_reducible refine Br.eq (fun hc => ?_) (fun hc => ?_)) <;> (first | (exfalso; omega) | conv => whnf)) | ((with_reducible refine Br.ne (fun hc => ?_) (fun hc => ?_)) <;> (first | (exfalso; omega) | conv => whnf)) | ((with_reducible refine Br.mk (fun hc => ?_) (fun hc => ?_)) <;> conv => whnf) | ((with_reducible refine Chk.mk (by first | omega | with_reducible rfl | (refine ⟨rfl, ?_⟩; omega) | decide | (refine ⟨rfl, by omega, by omega, rfl⟩) | (refine ⟨by assumption, rfl, by omega, by omega⟩)) ?_); conv => whnf) | ((with_reducible refine Ar.fit (by omega) ?_); conv => whnf) | ((refine CallN.ret1 (implPut_r f l b (by omega)) ?_) <;> conv => whnf) | ((refine CallN.ret1 (specPut_r f l b (by omega)) ?_) <;> conv => whnf) | ((refine CallN.ret1 (sameStore_c (putFloor f l b) (putList f l b) (by omega)) ?_) <;> conv => whnf) | (with_reducible exact trivial) | ((with_reducible refine And.intro ?_ ?_) <;> conv => whnf) | (intro gn; conv => whnf))
  · exact Fin.pure (A := [_, _, _, _]) rfl
  rcases code_cases f l b with ⟨h4, _⟩ | ⟨⟨hv, hb⟩, hcase⟩
  · omega
  have ha := btOk_auth hb
  have hs := btOk_size hb
  have hub := (stOk_usedW hv b.a)
  have h12 := ((stOk_iff f l).1 hv).2.1
  clear hpl
  refine CallN.ret _ (storeGet_c f l b.d (by omega) hv) ?_
  rintro r (⟨b', hm, hd, rfl⟩ | ⟨hno', rfl⟩)
  · have h1 : putCode f l b = 1 := by
      rcases hcase with ⟨h1, _⟩ | ⟨hno, _⟩
      · exact h1
      · exact absurd hd (hno b' hm)
    have eL : putList f l b = l := by unfold putList; rw [h1]; rfl
    have eF : putFloor f l b = f := by unfold putFloor; rw [h1]; rfl
    rw [eL, eF]
    conv => whnf
    repeat' (first | with_reducible refine HT.seq ?_ | ((with_reducible refine HT.region tt_ok ?_); conv => whnf) | ((with_reducible refine HT.drawn tt_ok (by kernel_rfl) (by kernel_rfl) ?_); conv => whnf) | ((with_reducible refine HT.cond ?_); conv => whnf) | with_reducible refine HT.block ?_ | ((with_reducible refine HT.ret ?_); conv => whnf) | ((with_reducible refine HT.skip ?_); conv => whnf) | ((with_reducible refine HT.exit ?_); conv => whnf) | ((with_reducible refine Br.tt ?_); conv => whnf) | ((with_reducible refine Br.ff ?_); conv => whnf) | with_reducible refine Br.not ?_ | ((with_reducible refine Br.dec (fun hc => ?_) (fun hc => ?_)) <;> (first | (exfalso; omega) | conv => whnf)) | ((with_reducible refine Br.eq (fun hc => ?_) (fun hc => ?_)) <;> (first | (exfalso; omega) | conv => whnf)) | ((with_reducible refine Br.ne (fun hc => ?_) (fun hc => ?_)) <;> (first | (exfalso; omega) | conv => whnf)) | ((with_reducible refine Br.mk (fun hc => ?_) (fun hc => ?_)) <;> conv => whnf) | ((with_reducible refine Chk.mk (by first | omega | with_reducible rfl | (refine ⟨rfl, ?_⟩; omega) | decide | (refine ⟨rfl, by omega, by omega, rfl⟩) | (refine ⟨by assumption, rfl, by omega, by omega⟩)) ?_); conv => whnf) | ((with_reducible refine Ar.fit (by omega) ?_); conv => whnf) | (refine CallN.ret1 (storeUsed_c f l b.a (by omega) hv ha) ?_ <;> conv => whnf) | (refine CallN.ret1 (sameStore_c f l (by omega)) ?_ <;> conv => whnf) | (with_reducible exact trivial) | ((with_reducible refine And.intro ?_ ?_) <;> conv => whnf) | (intro gn; conv => whnf))
    all_goals first | exact Fin.pure (A := [_, _, _, _]) rfl | exact Fin.pure (A := [_, _, _, _, _]) rfl | skip
  · rcases hcase with ⟨_, x, hx, e⟩ | ⟨_, ⟨h2, h⟩ | ⟨hr, ⟨h3, h⟩ | ⟨h0, h, h'⟩⟩⟩
    · exact absurd e (hno' x hx)
    · have eL : putList f l b = l := by unfold putList; rw [h2]; rfl
      have eF : putFloor f l b = f := by unfold putFloor; rw [h2]; rfl
      rw [eL, eF]
      conv => whnf
      repeat' (first | with_reducible refine HT.seq ?_ | ((with_reducible refine HT.region tt_ok ?_); conv => whnf) | ((with_reducible refine HT.drawn tt_ok (by kernel_rfl) (by kernel_rfl) ?_); conv => whnf) | ((with_reducible refine HT.cond ?_); conv => whnf) | with_reducible refine HT.block ?_ | ((with_reducible refine HT.ret ?_); conv => whnf) | ((with_reducible refine HT.skip ?_); conv => whnf) | ((with_reducible refine HT.exit ?_); conv => whnf) | ((with_reducible refine Br.tt ?_); conv => whnf) | ((with_reducible refine Br.ff ?_); conv => whnf) | with_reducible refine Br.not ?_ | ((with_reducible refine Br.dec (fun hc => ?_) (fun hc => ?_)) <;> (first | (exfalso; omega) | conv => whnf)) | ((with_reducible refine Br.eq (fun hc => ?_) (fun hc => ?_)) <;> (first | (exfalso; omega) | conv => whnf)) | ((with_reducible refine Br.ne (fun hc => ?_) (fun hc => ?_)) <;> (first | (exfalso; omega) | conv => whnf)) | ((with_reducible refine Br.mk (fun hc => ?_) (fun hc => ?_)) <;> conv => whnf) | ((with_reducible refine Chk.mk (by first | omega | with_reducible rfl | (refine ⟨rfl, ?_⟩; omega) | decide | (refine ⟨rfl, by omega, by omega, rfl⟩) | (refine ⟨by assumption, rfl, by omega, by omega⟩)) ?_); conv => whnf) | ((with_reducible refine Ar.fit (by omega) ?_); conv => whnf) | (refine CallN.ret1 (storeUsed_c f l b.a (by omega) hv ha) ?_ <;> conv => whnf) | (refine CallN.ret1 (sameStore_c f l (by omega)) ?_ <;> conv => whnf) | (with_reducible exact trivial) | ((with_reducible refine And.intro ?_ ?_) <;> conv => whnf) | (intro gn; conv => whnf))
      all_goals first | exact Fin.pure (A := [_, _, _, _, _]) rfl | skip
    · have eL : putList f l b = l := by unfold putList; rw [h3]; rfl
      have eF : putFloor f l b = f := by unfold putFloor; rw [h3]; rfl
      rw [eL, eF]
      conv => whnf
      repeat' (first | with_reducible refine HT.seq ?_ | ((with_reducible refine HT.region tt_ok ?_); conv => whnf) | ((with_reducible refine HT.drawn tt_ok (by kernel_rfl) (by kernel_rfl) ?_); conv => whnf) | ((with_reducible refine HT.cond ?_); conv => whnf) | with_reducible refine HT.block ?_ | ((with_reducible refine HT.ret ?_); conv => whnf) | ((with_reducible refine HT.skip ?_); conv => whnf) | ((with_reducible refine HT.exit ?_); conv => whnf) | ((with_reducible refine Br.tt ?_); conv => whnf) | ((with_reducible refine Br.ff ?_); conv => whnf) | with_reducible refine Br.not ?_ | ((with_reducible refine Br.dec (fun hc => ?_) (fun hc => ?_)) <;> (first | (exfalso; omega) | conv => whnf)) | ((with_reducible refine Br.eq (fun hc => ?_) (fun hc => ?_)) <;> (first | (exfalso; omega) | conv => whnf)) | ((with_reducible refine Br.ne (fun hc => ?_) (fun hc => ?_)) <;> (first | (exfalso; omega) | conv => whnf)) | ((with_reducible refine Br.mk (fun hc => ?_) (fun hc => ?_)) <;> conv => whnf) | ((with_reducible refine Chk.mk (by first | omega | with_reducible rfl | (refine ⟨rfl, ?_⟩; omega) | decide | (refine ⟨rfl, by omega, by omega, rfl⟩) | (refine ⟨by assumption, rfl, by omega, by omega⟩)) ?_); conv => whnf) | ((with_reducible refine Ar.fit (by omega) ?_); conv => whnf) | (refine CallN.ret1 (storeUsed_c f l b.a (by omega) hv ha) ?_ <;> conv => whnf) | (refine CallN.ret1 (sameStore_c f l (by omega)) ?_ <;> conv => whnf) | (with_reducible exact trivial) | ((with_reducible refine And.intro ?_ ?_) <;> conv => whnf) | (intro gn; conv => whnf))
      all_goals first | exact Fin.pure (A := [_, _, _, _, _]) rfl | skip
    · conv => whnf
      repeat' (first | with_reducible refine HT.seq ?_ | ((with_reducible refine HT.region tt_ok ?_); conv => whnf) | ((with_reducible refine HT.drawn tt_ok (by kernel_rfl) (by kernel_rfl) ?_); conv => whnf) | ((with_reducible refine HT.cond ?_); conv => whnf) | with_reducible refine HT.block ?_ | ((with_reducible refine HT.ret ?_); conv => whnf) | ((with_reducible refine HT.skip ?_); conv => whnf) | ((with_reducible refine HT.exit ?_); conv => whnf) | ((with_reducible refine Br.tt ?_); conv => whnf) | ((with_reducible refine Br.ff ?_); conv => whnf) | with_reducible refine Br.not ?_ | ((with_reducible refine Br.dec (fun hc => ?_) (fun hc => ?_)) <;> (first | (exfalso; omega) | conv => whnf)) | ((with_reducible refine Br.eq (fun hc => ?_) (fun hc => ?_)) <;> (first | (exfalso; omega) | conv => whnf)) | ((with_reducible refine Br.ne (fun hc => ?_) (fun hc => ?_)) <;> (first | (exfalso; omega) | conv => whnf)) | ((with_reducible refine Br.mk (fun hc => ?_) (fun hc => ?_)) <;> conv => whnf) | ((with_reducible refine Chk.mk (by first | omega | with_reducible rfl | (refine ⟨rfl, ?_⟩; omega) | decide | (refine ⟨rfl, by omega, by omega, rfl⟩) | (refine ⟨by assumption, rfl, by omega, by omega⟩)) ?_); conv => whnf) | ((with_reducible refine Ar.fit (by omega) ?_); conv => whnf) | (refine CallN.ret1 (storeUsed_c f l b.a (by omega) hv ha) ?_ <;> conv => whnf) | (with_reducible exact trivial) | ((with_reducible refine And.intro ?_ ?_) <;> conv => whnf) | (intro gn; conv => whnf))
      all_goals first | exact Fin.pure (A := [_, _, _, _, _]) (by rw [h0]; rfl) | skip⟩

theorem fnStorePut_holds : Rows.FnStorePutSaid := by
  refine OpenClaim.holds_of_wide 4 Try.f4 rfl rfl rfl rfl rfl rfl rfl ⟨rfl, rfl, rfl, rfl, rfl⟩ rfl rfl rfl rfl rfl (by kernel_rfl) Try.func4 (by kernel_rfl)
    (of_decide_eq_true (by kernel_rfl)) (by unfold Func.isWrapper; rw [if_neg (of_decide_eq_false (by kernel_rfl))]; exact ⟨rfl, rfl⟩)
    (fun os started H enc _ => ?_)
  refine law_lifted (s := Rows.fnStorePutSpec) started Try.func4 (by kernel_rfl) Try.underlying4 rfl (by kernel_rfl) rfl (fun ds hl => ?_)
    (ChangeSpec.witness6 (enc := enc) (C := Try.checked) false ⟨#[], #[.slice none 0 0], []⟩ 8 (by kernel_rfl) (by kernel_rfl) (by kernel_rfl) (by kernel_rfl)) ?_
  · match ds, hl with
    | [d0], _ => exact ⟨rfl, rfl, rfl⟩
  · intro W base args ds ps hval hA
    obtain ⟨v0, d0, rfl, rfl, h0⟩ := Go.ChangeShapes.trodAll_one hA
    obtain ⟨zs0, a0, b0⟩ := code_has Try.underlying22 Try.underlying5 (by kernel_rfl) (hval 0 _ v0 rfl rfl) h0
    exact law_calls (FnStorePut_c zs0 b0) ⟨a0, trivial⟩
theorem fnStoreCodes_holds : Rows.FnStoreCodesSaid := by
  refine OpenClaim.holds_of_wide 3 Try.f3 rfl rfl rfl rfl rfl rfl rfl ⟨rfl, rfl, rfl, rfl, rfl⟩ rfl rfl rfl rfl rfl (by kernel_rfl) Try.func3 (by kernel_rfl)
    (of_decide_eq_true (by kernel_rfl)) (by unfold Func.isWrapper; rw [if_neg (of_decide_eq_false (by kernel_rfl))]; exact ⟨rfl, rfl⟩)
    (fun os started H enc _ => ?_)
  refine law_lifted (s := Rows.fnStoreCodesSpec) started Try.func3 (by kernel_rfl) Try.underlying4 rfl (by kernel_rfl) rfl (fun ds hl => ?_)
    (ChangeSpec.witness6 (enc := enc) (C := Try.checked) false ⟨#[], #[.slice none 0 0], []⟩ 8 (by kernel_rfl) (by kernel_rfl) (by kernel_rfl) (by kernel_rfl)) ?_
  · match ds, hl with
    | [d0], _ => exact ⟨rfl, rfl, rfl⟩
  · intro W base args ds ps hval hA
    obtain ⟨v0, d0, rfl, rfl, h0⟩ := Go.ChangeShapes.trodAll_one hA
    obtain ⟨zs0, a0, b0⟩ := code_has Try.underlying22 Try.underlying5 (by kernel_rfl) (hval 0 _ v0 rfl rfl) h0
    exact law_calls (FnStoreCodes_c zs0 b0) ⟨a0, trivial⟩
end Go.Proofs.Ytjkeapkpdgfhcaa
