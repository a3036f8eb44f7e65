/- The shortest names for walks. Own work, over any program. -/
import Derived.Test.YthofjabphcheeaaDoorShort2
set_option linter.unusedVariables false
namespace Go.Proofs.YthofjabphcheeaaDoor
open Go Go.RowKit
theorem q.{u} {α : Sort u} {a : α} : a = a := rfl
abbrev nS : Value := .slice none 0 0
abbrev pB (b : Nat) : Value := .pointer (some ⟨b, 0, none⟩)
theorem L : type_of% @Option.some.inj := @Option.some.inj
theorem B : type_of% @WL_nil_seq := @WL_nil_seq
theorem D : type_of% @bind_some := @bind_some
theorem C : type_of% @WP_seq := @WP_seq
theorem R : type_of% @Holds.bx := @Holds.bx
theorem l : type_of% @XL_load_bx := @XL_load_bx
theorem y : type_of% @WP_skip_seq := @WP_skip_seq
theorem Z : type_of% @WP_region := @WP_region
theorem J : type_of% @w_take := @w_take
theorem zb : type_of% @Holds.startN := @Holds.startN
theorem X : type_of% @nrm_seq := @nrm_seq
theorem S : type_of% @WP.app := @WP.app
theorem T : type_of% @allOne := @allOne
theorem p : type_of% @Cov.same := @Cov.same
theorem u : type_of% @Cov.refl := @Cov.refl
theorem Y : type_of% @WP_cond := @WP_cond
theorem b : type_of% @XL_indexH := @XL_indexH
theorem m : type_of% @ret_seq := @ret_seq
theorem W : type_of% @WP_ret := @WP_ret
theorem zl : type_of% @WL_store_bxA := @WL_store_bxA
theorem g : type_of% @WP_block := @WP_block
theorem zn : type_of% @exit_block_eq := @exit_block_eq
theorem zm : type_of% @XL_load_bxA := @XL_load_bxA
theorem zi : type_of% @nrm_block := @nrm_block
theorem zj : type_of% @ret_block := @ret_block
theorem zp : type_of% @wp_loop_fix := @wp_loop_fix
theorem ze : type_of% @qt_pickT := @qt_pickT
theorem zf : type_of% @qt_pickF := @qt_pickF
theorem za : type_of% @XL_lenH := @XL_lenH
theorem zk : type_of% @WP_still := @WP_still
theorem zd : type_of% @WL_call := @WL_call
theorem zt : type_of% @XL_load_int := @XL_load_int
theorem zh : type_of% @XL_join := @XL_join
theorem zs : type_of% @WL_buildH := @WL_buildH
theorem zw : type_of% @WL_appendH := @WL_appendH
theorem zq : type_of% @WL_alloc := @WL_alloc
theorem zv : type_of% @qt_extract := @qt_extract
theorem zx : type_of% @List.mem_append_right := @List.mem_append_right
theorem A : type_of% @XL_q := @XL_q
theorem zg : type_of% @calls_enter := @calls_enter
theorem zo : type_of% @exit_seq := @exit_seq
theorem zu : type_of% @XC_use := @XC_use
theorem zy : type_of% @XC_all := @XC_all
theorem zr : type_of% @Md.quiet_of := @Md.quiet_of
end Go.Proofs.YthofjabphcheeaaDoor
