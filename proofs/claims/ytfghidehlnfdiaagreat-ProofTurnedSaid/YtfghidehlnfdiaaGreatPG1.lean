/- Two Keccak values, round by round (printed by genk.py 16): of the empty text's encoding, of the leaf of one short key. -/
/- The law's own check of the document's proofs. -/
/- The walk of TriePaths. -/
/- The walk of ProofTakes. -/
/- Arguments: how long they can be. -/
/- Keys with values as arguments; how long what came in can be. -/
/- Contracts: few, turned (morainelaw16). -/
/- The walk of ProofMakes. -/
/- Entries as arguments. -/
/- The verification conditions of some functions, printed by a program of ours (wip/PrintVc.lean). -/
/- The walk of ProofTurned. -/
import Derived.Test.YtfghidehlnfdiaaGreatTVP
import Derived.Test.YtfghidehlnfdiaaGreatTL1
import Derived.Test.YtfghidehlnfdiaaGreatTVY
import Derived.Test.YtfghidehlnfdiaaGreatDD4
import Derived.Test.YtfghidehlnfdiaaGreatTP1
import Derived.SizedLaws
import Derived.Test.YtfghidehlnfdiaaGreatRows
import Derived.Test.YtfghidehlnfdiaaGreatProg
import Derived.KernelRfl
set_option linter.unusedVariables false
set_option linter.unusedSimpArgs false
section
namespace Go.Vcg
def kFm:List UInt8:=[128]
def kFh:List UInt8:=[86,232,31,23,27,204,85,166,255,131,69,230,146,192,248,110,91,72,224,27,153,108,173,192,1,98,47,181,227,99,180,33]
def kFL0:List (BitVec 64):=[0x180,0x0,0x0,0x0,0x0,0x0,0x0,0x0,0x0,0x0,0x0,0x0,0x0,0x0,0x0,0x0,0x8000000000000000,0x0,0x0,0x0,0x0,0x0,0x0,0x0,0x0]
def kFL1:List (BitVec 64):=[0x40000000180,0x18000000000000,0x40000c00000,0x181,0x18000000c00000,0x8,0x30100030000000,0x1000000000000008,0x30100000000000,0x1000000030000000,0x300,0x30020,0x40000,0x30300,0x40020,0x1800060000,0x1000004000,0x60000,0x1800004000,0x0,0x2001800000000000,0x20000000000,0x1800000000600,0x2000020000000000,0x600]
def kFL2:List (BitVec 64):=[0x1e48322010f207e2,0xa1eda94a21c78528,0x4aab1200d1d1598c,0x934c0969498481d0,0xe62b8000f9655814,0x65481be15033040,0xeb1100f428960301,0x824917c680149344,0x4fc78038c0820030,0xe88a36846e14bb55,0xf70a2293043c38,0x2115a00c0e76daf4,0x8043d11880e0230e,0x332e30300d438d70,0x8289c30619f183a2,0x42167a3a8b39f8d1,0x1d287e80e6034221,0x4a304180045aaa0a,0x1b165239699130f5,0x4438350704e3480e,0x91b1d4b815bc6148,0xac1400ca8070c5a4,0x5a1e0f01f8d1e40,0x191cc4a8987931a9,0x240238220608be65]
def kFL3:List (BitVec 64):=[0x92eef97b5e30a756,0xaaa0a063d7d9fb58,0x7376f45f672b17d2,0xda8753ae5708a048,0x6e6a9a51a422cfcd,0x3c6553212d548d0,0x5583a58939a534a3,0xcafcebb3ec90f08a,0x645d5d005419ef7a,0x5085f9943b9848d3,0xcab2a22a21ef4c6f,0xfc8ff582a2b56176,0xa337a963db5e5569,0xcf360963d7419d7d,0x3fb0387983d78125,0x2581f3c4fde6750c,0xac9d46b5cae16ed8,0xe573b60fc3c5e790,0xf4ed04a481c505d1,0xacd60c514b4b56d0,0x5add1afa8597e255,0xf7e8a9816c13c939,0x5e97167cfd60654a,0xa5b9dc355dbe9f89,0xa0e393a41f9ba355]
def kFL4:List (BitVec 64):=[0xb6571f4bcafff638,0xa712c135767b0b37,0x3ef15dd558442b4d,0x5769df500abaa833,0x6098cf6594883b70,0x3ad175fc9734dc9d,0xc304ad5e8ac19b2e,0xbbd2c077e944d7cb,0x4577f851c792003f,0x8dc776f108a2bc83,0x93e8b59c7ce45975,0x341f96adbd4cf0f5,0x1a70b485dc616d3c,0xfa9d27e5a677e3ad,0xc43a65318fd5ba17,0xb023fbf1d82afe1e,0xe2eb9b3bf6c3c42c,0xf8f6bcaf7852c76b,0x2bd456e1bf710678,0x5fd635487a628568,0x9ba79464a7d1ed64,0x2cc73cf10757b11e,0x810121ab4734dee8,0x43aec45ed243ea46,0x2239e41387a66162]
def kFL5:List (BitVec 64):=[0x9f9724a944211ce6,0x88ff73a8f6de6398,0x81b7e335762b8946,0xbdf48083b7ac88b5,0x65e55c1af2b011c5,0x684ca8bf71d4860f,0x5bf5965daca66e38,0xf8005bdda7dcc937,0xde9aa35448f4668b,0x36f9fd42bb73f831,0xcb323f3b9948e6cc,0x89a8131459e2ea2f,0x72588f88c9761718,0xcba47cc2a6e391f6,0x8e00e4fc1afcc59d,0x70737bf7824d33e4,0x9e304e84a1d92131,0x703d49145e18b377,0x72f882f192c4b3b2,0x2f8c9a6ba14c33c0,0x2823c50ff1745669,0x4f15f20a8334d5b8,0x5ded6e10bb680808,0x8250d2a9cf9474cd,0x9097b287f0b3a60b]
def kFL6:List (BitVec 64):=[0x4b9edd775044644a,0x1aff93b62bb408ad,0x5abb8218ddb2ef4e,0x2abdbae98169a21,0xf9f950d420cb18e5,0x1563f516b7edd5a6,0x96408b97192a6e3c,0xf11f746ed93bc655,0xac3eb6fca9f74014,0x86d5cf5dba7b2754,0x6c4c9975a5226c35,0x40c143217882d362,0xedd667c48527b6c,0x9c9eb51a2fda27af,0x62e587697d11e768,0x4212bd27170d0643,0x1da10009bc5413a9,0x2df861f6019eeec5,0x6efa279d6a0fafbb,0x82c163189d67f47b,0xad9c05fb1f82f7cb,0xacc6d7b4a55c80f8,0x97a4555f80301d21,0xe7ec97aaf7a6698e,0xdf492c5e5d1450c5]
def kFL7:List (BitVec 64):=[0x70ac9b87e0fea58b,0xde1da48340bf8798,0xf4c80ef1f1a4e9,0xee5d9ad68dd22bc4,0x95fc76f380f3ff1e,0xa1785d7eeb924d90,0x5239c86cd987e6a,0x21f69d683442e8be,0x6fb7c3cee9400993,0xd9926323be883bf0,0x9347b2af52b4def4,0x8f0aea215b74eebc,0xe7dc1e9ce6267b45,0x7119719a1981f787,0x209670e31be17fb3,0x4dba397e49249355,0x6bae480cb817bdc2,0x952efba9b691329e,0x9658aa94551c9324,0xf33c0b9cf56e5b92,0x952405b7e00aef9d,0xeb50d1e89142704,0x55422e3cd5764b25,0x2e4ae2e2e1c7f6ad,0x1e5394a5df5aae3d]
def kFL8:List (BitVec 64):=[0x7464df921b37467,0xabd1fd64bb9c1bf0,0x3ca943ae28ca9c95,0x9fc504680c6358f9,0x31ca0ddb3c86d33a,0x5d5ddb8c8f280728,0x78da359bc6bf799,0xd6da3640adea1c70,0xac5cff184d01b208,0xdc35cf5d0474a452,0x12e6b38df772a9cd,0x4380ec4468d7e5a8,0xc28dde4b37695307,0x5751765d4a7da4c7,0x350c846e97c9b93,0xc76ebe51d7af1858,0xfd53e6244c188b12,0xab79162d08cbc565,0xd2ff497829920ef9,0xc9bad6acb1be68a7,0x680ea51e454c9264,0x7ab538041bc1146d,0xc2dd528d36c154df,0xdf8f6ddce49e2120,0x60c4f53f7e88e4cf]
def kFL9:List (BitVec 64):=[0x10e1b5dc6df83103,0x7979721bd4ddd61c,0xb037704c7e1c7d1c,0x8bf2a029b60b88f6,0xea6e0981d91137e7,0xbbdf1df8f4dbdb98,0x3a54c73d6c17b993,0x4e0a5fd451cfe111,0x9b26930f65c3087a,0xef128fbef847e056,0x446a7f9e2008c79,0x64420026c5da6073,0xbe0a3c5135349917,0xb400594139a8343f,0x33fce819737dbeaf,0x4b674a1c04fe5ec9,0x12b4b07eaf82a6df,0xea33c33d5b93bd38,0xb5d7d60748a8ca50,0x5a01d3b0d4550db4,0x65741feb87053239,0xfb333c004b6f3839,0x8bf98090c82e50d0,0xc923f3b9909f1300,0xe47622e379cd088c]
def kFL10:List (BitVec 64):=[0x1d5e5855a5b07998,0xa727df161afdf8d3,0x18c67a0594d6e943,0x1083c2cb7c50c8a7,0x947be902ce1f0fc7,0xe40b3a04f9fa0dfa,0x2786920d1012f6ea,0x9b00574274ea1010,0xafa46100b043a417,0xbd8aa4c286aef144,0xe3d039f07d601fb6,0x4b9e523d955ea18c,0x941a29294181a520,0xc1782cd7bf346810,0xc1a36b3ef2a32147,0x2e15b67519e4d708,0x39299bface9fcf47,0x42ea3423daea37b9,0xf2fe510072f28edd,0x3ed17917d0eda320,0x7e85d12025d3cdb0,0x42d59a76c04fde9d,0xcfe9bff681094cf4,0x7d05509ca19f6951,0xe6db11d04403bd30]
def kFL11:List (BitVec 64):=[0xcee0290529cb549a,0x6d8dbd038339edb3,0x8e6ca32427443456,0x5d3aa28449efd62a,0x49b1a31ead210bdd,0xaded66c39e5ed8b8,0x74a945ff7e0fa047,0x91f663e802ed97f5,0xf239c89063af6de7,0x418cfea7ab1ea6dd,0xad3bfcbbeedda9c9,0x611b622bd61ad9b3,0xbc01a7284e3a075a,0x6f852740b9b3d6da,0x8bb4a5f1c3eebd5c,0xd32788913da5c8a3,0x565b0b175cd11eaf,0x15c593b3ae7a449d,0xbe415bfad4e0882,0xcbdf6d4915562ec1,0x7bc30629830cad69,0xd6eee394e58be20b,0x28bab8d236ffaf24,0xb4d51ed487ca1266,0xf5d60644c338d430]
def kFL12:List (BitVec 64):=[0x9274d3ed9e5067fb,0xc5e372db6f26d7f6,0x1cf2f4de22080ca5,0x760f767a4525ee2f,0x6b760d7168e341fd,0xb59864c9d3bd788b,0xa13c7bb52744135c,0x289652e9c670511b,0x11c5a834fa332b,0x25ce52eb3e8ee470,0x7776b79a07f8a6bc,0xc4a7399afd8d0c44,0x9dddb4859b104d9e,0xe478dfe2e639525b,0x4797911ec008c55c,0x51dd25b22fd158f5,0x201a1d0e365113ea,0x4e0a875bc60fee60,0xb440a0f245401d65,0xfd532878cb53a182,0xe3c607cf61f32c54,0xbe496f726be93b7e,0xbfb57adc43cc2270,0x2dc5913f0719f645,0x2bd8f57b9f103185]
def kFL13:List (BitVec 64):=[0xb88e85fb8ed7f5d3,0x56623f7f15719c6e,0xa968d591a2afaec3,0x1981318f931b675c,0x3d210ab033e8f16c,0x79d353b2b941fe6,0xa1d2d3f3f97efaf4,0x362218458b8495ee,0x2de8c358d534c246,0x3ac910b56456014e,0x8fce04b9b48d4dd8,0x5ceae7a1550765d0,0xf4747237fc866cef,0x98aa13118f5b6316,0x15452fe8338b22d2,0xf9b9ddd85c6cbaa8,0x344881124bd345f,0xefde417bb1ecea50,0xba355631ab7633d3,0xda8e895827fafa9f,0xe94b932b6a08f980,0x4bb3ac268d074677,0xef1bbc4e9b45830b,0xfc902fe54f2e087a,0xa12663eeeb003fc8]
def kFL14:List (BitVec 64):=[0xbfd7068c065c0d88,0xc630bce4fa4d7209,0xee8c3442a111cff1,0x5e41b90445847885,0x39a133efa7880cb,0xe7541b681323dc0e,0x2a0172f140db1525,0x6864edde924c5d5,0x55651d931ee4c379,0x432f14fd5e2dc225,0xe33480b419a60f2d,0x472582f05a4bf1e0,0xa850026db243b9de,0xb5805e740be8b353,0x5992d0cc71c8ec90,0x7e8c9c1a1f685999,0x2fe4dcbbc272519,0x4e271a6293318eac,0x3daa73aba824af7b,0xac37409304e2b05b,0x9683406bd811293a,0xce5e8c3fdc25dfea,0x882b36dfac276728,0x889fa60564b96e93,0xb9e34011563ba843]
def kFL15:List (BitVec 64):=[0xf64fb3a4a6adeb5d,0xb53906605084b33b,0x1a38f88ef0ce3c55,0x5be47193399621e1,0x3bf7d30a9655954b,0x8a4fca3f4de0525,0x7db8d4bc73224aeb,0x1d705cd658f349ba,0xe71dcbfc088bbbac,0xa806bfbea1ba8bf9,0x73c8a8bef40af3bb,0x124ac9d0402fd51d,0x609061abcadc332c,0xd6a51d1fd4778d99,0xb3322eed1c8d5c62,0x7ad78a0467bcdf1,0x7dcb24e05cefe771,0xc4ae1271ee0d1460,0x627c55421c5e12f9,0x79052f1f592b7050,0x2d9e387a9e6d2d55,0xc5a66a7367eb8ef8,0xf3c77fee8aaf571,0x6e92a8a2ecb2133,0x8548d407149596d4]
def kFL16:List (BitVec 64):=[0x1ffd81075d634423,0x89868c214376b84c,0x79faeb3d6e2b39e5,0x1897142d912461f1,0x109c57cdd0114934,0x9953cae1a88b5b2f,0x36aa89e592879aa2,0x5454d42b1df6e93b,0x7bb0fcc07c6f7d77,0x2a09136651ffbbc1,0xd7e8d333c94ac6f5,0xbc6e6f19ea3930b8,0xc2ff1649c187b5df,0xf8d1a021cb6683bb,0xa8132aa42e35e178,0xa9d2aa16f249e81e,0xf2c43fb51e6eed8a,0x3ca91d9b459c5fb5,0x5ea78cbb8fd497ec,0x5813ab7970a1310e,0xcd431fe96de30dda,0x42ff270893d10c0a,0x56c97c7aed7c0953,0x6a871a24df1eb320,0xca3617a7c43442c8]
def kFL17:List (BitVec 64):=[0xb826e67726460f57,0xb8652e9d72603263,0x798750413e84fd42,0x6df0fc4b99395a68,0x20f97db03149f399,0x921900307a9e1717,0x24060025848a961b,0xccf8f4c71da8831,0x5e5f1086397a7f11,0xb345a6d012f871a4,0x37ae604fae75cb6d,0x2027c451d199c2aa,0xff0e80ebbcf966da,0x232d7fa5d4f7c6a9,0xa7e4f21a3978acca,0x52470535fb27069c,0x720f4e9d986f8f2d,0x7f0d4d14059e3a4f,0xe7af8b12abc46ea0,0xf146397d38fbf141,0x454b91c8dcb3be7c,0x93b16301ec0028c7,0x443175d6255203ef,0xd09e7199ce78ad1f,0xf71e0f7834bd5f62]
def kFL18:List (BitVec 64):=[0x14f2d4ca96d24d7a,0xa9e44c6ddcd87e6,0x2fede69ddea3672a,0x7809e20ab4f65628,0x9ad023f5832c6361,0x4421d1cc098ee858,0xa98af92465582dfe,0xda1e02f0de958e4c,0x23e305cc3441768,0x835fa40cce9bc4c7,0xca08e45803729173,0x95c68fc1b5806544,0xfe5587ce638dac74,0x6f7d31c3811abdc0,0x1593ab96c7e3567c,0xdc333cab21a740ac,0x26115371bac93c94,0x2a67f2a9d9d5d927,0xec83a24a7d5737c1,0x9c85a738dd7816d6,0x1beedc76837e1768,0x7a45f291ef43c7bc,0xcc4f118aac4b1521,0x328c70bfe56b439f,0xaf63fc7653bddc65]
def kFL19:List (BitVec 64):=[0x660c4c6fe35996f0,0x44c420f01fd3e776,0xfecdf8322fb64fb3,0xdd0dce5503f6d748,0xb24432a1f866168e,0x8bef3b7bea672e5c,0xceadce18fb2f6167,0x1f5cfed93efb580,0x2112168f80fe4dce,0x6208b8113427a73c,0x1a0a8a8b9bf3e203,0x483db89ccaebc108,0x307cbb851c5ccabc,0xc49f5e448e190a7c,0xb7f0af1153afc52e,0xa8a6b360bf4f28c8,0x43db99bbe34c1d8b,0x2e1dda92f1dbe4c7,0x5d72f517c73eb35,0x1bb9fa843dda7a8f,0xfc7c81f7b6c588b2,0x476a3862cffe20f4,0xadd544301a6a3869,0x14a65fc988d91990,0xf27bea43bed4f947]
def kFL20:List (BitVec 64):=[0x8e39b670eff2b56f,0x903fcf9c40e49ff2,0x7bb7390bdd056c7d,0xe98942ded7f9a4ea,0x709315701ba0ed6b,0xda8839d01a98df76,0x26ebb3100a0a8c1,0xede2e57c03d80cc2,0x57e39b320ee8b6cc,0x277debd11977305f,0x3cd75c1147d2838a,0x32f710ba89c6f715,0xa1d4f41de92b5a4d,0xbf4393f2edbd7bb6,0x6f0ebef6a4afab00,0xf0b39708c4eefb55,0x9c42dc5cadaf947a,0x410d4538c77e5dda,0x4123000c2f0bcf49,0x14049e77fcfaa831,0x9673b4ac959bfe12,0x216e332559697da6,0x78a825453a6383ce,0xc0a613d2964bcd1f,0xd40f4b7847200828]
def kFL21:List (BitVec 64):=[0xd8e771143a9fb023,0xe8879118c520ff6b,0x15a5d6ad3667960e,0x1438e010fedffa88,0x1cbc435debb11532,0x4a2fb26475a7b01d,0x2585315cb31760a5,0xf1cdfe8947d3161e,0x244c6d95a7ecdb76,0xd0f43bd4187e677,0xa7ab5d6a6b7c3557,0x930fc59d826b375,0xb2b8642774a461d6,0xe42789be8dca7e48,0x94b7ea44ff2dde1c,0xfe4cbbf64f6b85e4,0x410c5af197fd2f28,0x65d606ff57697580,0xe66b5a795bdebe8f,0xa31e5570e567c586,0xddd1f7780be66802,0xb825007a42d7b27f,0x2a0cf3615247ec4f,0x99251867980b1d45,0xee0544787dd4e185]
def kFL22:List (BitVec 64):=[0xfb8a995c07308a25,0xa23b8004e9070ffa,0x5903760ca667c937,0x95ba931e862deb42,0x6ddc6ad80336ff23,0xe24f15534dd29aed,0xbebd326cb39bebb,0xe4145c51859efeaa,0x6acbcbcb67bb4ad,0x4125cdbf10ec90b9,0xdcf829440ba38ae5,0xb18f2056bc5702c7,0xf56dc8edeadb3e4e,0x66ae5c3a99a2e428,0x24e5d4e4ae55ffe2,0x899a24c2cad945b1,0x658da8fa1064490c,0x5477ceb06f6ec0b3,0xc6f9e3859a9a077b,0x9f15996ba3276f33,0xd7a814145bc1d342,0xc5c0fc0168840931,0xdb69bc492a84a796,0xe55fdc949adbf8ad,0x536c2fd129946b92]
def kFL23:List (BitVec 64):=[0x8fcd2572748ef35a,0x33398182d222a029,0x823e7f0ed3bd0ef9,0x3a0c163237c17bdf,0x522848a4cfefacff,0x1345cbc371849083,0x12d37ab4b2c2036e,0xd251b451c27aadb,0xb506e4892fbf9b27,0x7978f46633b6f9c9,0x6fbc6e16818fbf93,0x1ab06be43f41d1cf,0x6af6215659d3020c,0x13ceb1ae603eaf6e,0x78ca16f29dd1cf8a,0x5050ecd66768e8eb,0xe7dc9835e479d777,0x66fdf15659279802,0xa84760568d93206c,0xc724e0e7aff97daf,0xda1a540434b0a6a9,0xb00899cac6ae2559,0xa9402766727b8b59,0x7f2e6c7bb79dc4c1,0x643da5edc63d215b]
def kFL24:List (BitVec 64):=[0xa655cc1b171fe856,0x6ef8c092e64583ff,0xc0ad6c991be0485b,0x21b463e3b52f6201,0x6f2789526bdcb6fa,0xb9a4dfa32e467194,0x7fbf54770eac2b9d,0x3b151fb49843c62a,0x7456e960fec6dd27,0x280ba513315a09b9,0x7e575e5cfa088096,0xac01167b7b5d86fb,0xef9b6d2997b479f9,0x6d93135b74fab5fa,0xe593186487a0cc7b,0x349ad316f75f5f7e,0x7055a8558ef92038,0xbd670349dcb6a5b4,0x670d5078a2288496,0x27f151402aba31fd,0xcc7acc34cf013622,0x61e0a6c7f80274d2,0xf72051e0eeb4827c,0x9a7f5ef7dcd7ed2b,0x56db3f518f237f3f]
theorem kFR0:∀j:Nat,j < 25→rnd 0 (lk kFL0) j=lk kFL1 j:=by decide +kernel
theorem kFR1:∀j:Nat,j < 25→rnd 1 (lk kFL1) j=lk kFL2 j:=by decide +kernel
theorem kFR2:∀j:Nat,j < 25→rnd 2 (lk kFL2) j=lk kFL3 j:=by decide +kernel
theorem kFR3:∀j:Nat,j < 25→rnd 3 (lk kFL3) j=lk kFL4 j:=by decide +kernel
theorem kFR4:∀j:Nat,j < 25→rnd 4 (lk kFL4) j=lk kFL5 j:=by decide +kernel
theorem kFR5:∀j:Nat,j < 25→rnd 5 (lk kFL5) j=lk kFL6 j:=by decide +kernel
theorem kFR6:∀j:Nat,j < 25→rnd 6 (lk kFL6) j=lk kFL7 j:=by decide +kernel
theorem kFR7:∀j:Nat,j < 25→rnd 7 (lk kFL7) j=lk kFL8 j:=by decide +kernel
theorem kFR8:∀j:Nat,j < 25→rnd 8 (lk kFL8) j=lk kFL9 j:=by decide +kernel
theorem kFR9:∀j:Nat,j < 25→rnd 9 (lk kFL9) j=lk kFL10 j:=by decide +kernel
theorem kFR10:∀j:Nat,j < 25→rnd 10 (lk kFL10) j=lk kFL11 j:=by decide +kernel
theorem kFR11:∀j:Nat,j < 25→rnd 11 (lk kFL11) j=lk kFL12 j:=by decide +kernel
theorem kFR12:∀j:Nat,j < 25→rnd 12 (lk kFL12) j=lk kFL13 j:=by decide +kernel
theorem kFR13:∀j:Nat,j < 25→rnd 13 (lk kFL13) j=lk kFL14 j:=by decide +kernel
theorem kFR14:∀j:Nat,j < 25→rnd 14 (lk kFL14) j=lk kFL15 j:=by decide +kernel
theorem kFR15:∀j:Nat,j < 25→rnd 15 (lk kFL15) j=lk kFL16 j:=by decide +kernel
theorem kFR16:∀j:Nat,j < 25→rnd 16 (lk kFL16) j=lk kFL17 j:=by decide +kernel
theorem kFR17:∀j:Nat,j < 25→rnd 17 (lk kFL17) j=lk kFL18 j:=by decide +kernel
theorem kFR18:∀j:Nat,j < 25→rnd 18 (lk kFL18) j=lk kFL19 j:=by decide +kernel
theorem kFR19:∀j:Nat,j < 25→rnd 19 (lk kFL19) j=lk kFL20 j:=by decide +kernel
theorem kFR20:∀j:Nat,j < 25→rnd 20 (lk kFL20) j=lk kFL21 j:=by decide +kernel
theorem kFR21:∀j:Nat,j < 25→rnd 21 (lk kFL21) j=lk kFL22 j:=by decide +kernel
theorem kFR22:∀j:Nat,j < 25→rnd 22 (lk kFL22) j=lk kFL23 j:=by decide +kernel
theorem kFR23:∀j:Nat,j < 25→rnd 23 (lk kFL23) j=lk kFL24 j:=by decide +kernel
theorem kFS0:∀j:Nat,j < 25→rnds 0 (xorB zeroS (padB kFm)) j=lk kFL0 j:=by decide +kernel
theorem kFS1:∀j:Nat,j < 25→rnds 1 (xorB zeroS (padB kFm)) j=lk kFL1 j:=fun j hj=>(rnd_congr 0 kFS0 j hj).trans (kFR0 j hj)
theorem kFS2:∀j:Nat,j < 25→rnds 2 (xorB zeroS (padB kFm)) j=lk kFL2 j:=fun j hj=>(rnd_congr 1 kFS1 j hj).trans (kFR1 j hj)
theorem kFS3:∀j:Nat,j < 25→rnds 3 (xorB zeroS (padB kFm)) j=lk kFL3 j:=fun j hj=>(rnd_congr 2 kFS2 j hj).trans (kFR2 j hj)
theorem kFS4:∀j:Nat,j < 25→rnds 4 (xorB zeroS (padB kFm)) j=lk kFL4 j:=fun j hj=>(rnd_congr 3 kFS3 j hj).trans (kFR3 j hj)
theorem kFS5:∀j:Nat,j < 25→rnds 5 (xorB zeroS (padB kFm)) j=lk kFL5 j:=fun j hj=>(rnd_congr 4 kFS4 j hj).trans (kFR4 j hj)
theorem kFS6:∀j:Nat,j < 25→rnds 6 (xorB zeroS (padB kFm)) j=lk kFL6 j:=fun j hj=>(rnd_congr 5 kFS5 j hj).trans (kFR5 j hj)
theorem kFS7:∀j:Nat,j < 25→rnds 7 (xorB zeroS (padB kFm)) j=lk kFL7 j:=fun j hj=>(rnd_congr 6 kFS6 j hj).trans (kFR6 j hj)
theorem kFS8:∀j:Nat,j < 25→rnds 8 (xorB zeroS (padB kFm)) j=lk kFL8 j:=fun j hj=>(rnd_congr 7 kFS7 j hj).trans (kFR7 j hj)
theorem kFS9:∀j:Nat,j < 25→rnds 9 (xorB zeroS (padB kFm)) j=lk kFL9 j:=fun j hj=>(rnd_congr 8 kFS8 j hj).trans (kFR8 j hj)
theorem kFS10:∀j:Nat,j < 25→rnds 10 (xorB zeroS (padB kFm)) j=lk kFL10 j:=fun j hj=>(rnd_congr 9 kFS9 j hj).trans (kFR9 j hj)
theorem kFS11:∀j:Nat,j < 25→rnds 11 (xorB zeroS (padB kFm)) j=lk kFL11 j:=fun j hj=>(rnd_congr 10 kFS10 j hj).trans (kFR10 j hj)
theorem kFS12:∀j:Nat,j < 25→rnds 12 (xorB zeroS (padB kFm)) j=lk kFL12 j:=fun j hj=>(rnd_congr 11 kFS11 j hj).trans (kFR11 j hj)
theorem kFS13:∀j:Nat,j < 25→rnds 13 (xorB zeroS (padB kFm)) j=lk kFL13 j:=fun j hj=>(rnd_congr 12 kFS12 j hj).trans (kFR12 j hj)
theorem kFS14:∀j:Nat,j < 25→rnds 14 (xorB zeroS (padB kFm)) j=lk kFL14 j:=fun j hj=>(rnd_congr 13 kFS13 j hj).trans (kFR13 j hj)
theorem kFS15:∀j:Nat,j < 25→rnds 15 (xorB zeroS (padB kFm)) j=lk kFL15 j:=fun j hj=>(rnd_congr 14 kFS14 j hj).trans (kFR14 j hj)
theorem kFS16:∀j:Nat,j < 25→rnds 16 (xorB zeroS (padB kFm)) j=lk kFL16 j:=fun j hj=>(rnd_congr 15 kFS15 j hj).trans (kFR15 j hj)
theorem kFS17:∀j:Nat,j < 25→rnds 17 (xorB zeroS (padB kFm)) j=lk kFL17 j:=fun j hj=>(rnd_congr 16 kFS16 j hj).trans (kFR16 j hj)
theorem kFS18:∀j:Nat,j < 25→rnds 18 (xorB zeroS (padB kFm)) j=lk kFL18 j:=fun j hj=>(rnd_congr 17 kFS17 j hj).trans (kFR17 j hj)
theorem kFS19:∀j:Nat,j < 25→rnds 19 (xorB zeroS (padB kFm)) j=lk kFL19 j:=fun j hj=>(rnd_congr 18 kFS18 j hj).trans (kFR18 j hj)
theorem kFS20:∀j:Nat,j < 25→rnds 20 (xorB zeroS (padB kFm)) j=lk kFL20 j:=fun j hj=>(rnd_congr 19 kFS19 j hj).trans (kFR19 j hj)
theorem kFS21:∀j:Nat,j < 25→rnds 21 (xorB zeroS (padB kFm)) j=lk kFL21 j:=fun j hj=>(rnd_congr 20 kFS20 j hj).trans (kFR20 j hj)
theorem kFS22:∀j:Nat,j < 25→rnds 22 (xorB zeroS (padB kFm)) j=lk kFL22 j:=fun j hj=>(rnd_congr 21 kFS21 j hj).trans (kFR21 j hj)
theorem kFS23:∀j:Nat,j < 25→rnds 23 (xorB zeroS (padB kFm)) j=lk kFL23 j:=fun j hj=>(rnd_congr 22 kFS22 j hj).trans (kFR22 j hj)
theorem kFS24:∀j:Nat,j < 25→rnds 24 (xorB zeroS (padB kFm)) j=lk kFL24 j:=fun j hj=>(rnd_congr 23 kFS23 j hj).trans (kFR23 j hj)
theorem kF_last (j:Nat) (h:j < 25):lastS kFm j=lk kFL24 j:=kFS24 j h
theorem kF_sum:sumOf kFm=kFh:=by
 have e:sumOf kFm=(List.range 32).map (outAt (lk kFL24)):=by
  unfold sumOf
  refine List.map_congr_left (fun i hi=>?_)
  have hi:=List.mem_range.1 hi
  simp only [outAt,kF_last (i / 8) (by omega)]
 rw [e]; decide +kernel
def kGm:List UInt8:=[196,130,32,97,49]
def kGh:List UInt8:=[89,182,151,164,219,12,71,85,64,72,98,21,193,232,246,73,69,164,160,173,141,41,29,230,205,144,33,196,251,246,57,221]
def kGL0:List (BitVec 64):=[0x131612082c4,0x0,0x0,0x0,0x0,0x0,0x0,0x0,0x0,0x0,0x0,0x0,0x0,0x0,0x0,0x0,0x8000000000000000,0x0,0x0,0x0,0x0,0x0,0x0,0x0,0x0]
def kGL1:List (BitVec 64):=[0x531612082c4,0x82c400000131612,0x98b49041620000,0x121200082c5,0x8b4f09041711412,0x8,0x3674b41058a62c24,0x8,0x1058900000262c24,0x362c241058800000,0x262c2410588,0x262c241058820,0x0,0x260a083448d88,0x40020,0x1616cda8c20b1013,0x1000004000,0x4c584820b1000,0x1612082c40004013,0x1000000000,0x82c40000013161,0x20000000000,0x2082c0c584833a71,0x2000020000000000,0x4c584820b10]
def kGL2:List (BitVec 64):=[0x622ced72cd3ebdd2,0x97aea6055955ba61,0xb1871ad3131c4ea3,0x68cff42a83ff1ea1,0xa565ab40d98100f9,0xa49805e6874ed137,0xc2a79116fc63dd09,0x196ee9b1e0e93432,0x63c8c3d129292dd2,0x6a6ea67bfb5fe51a,0xb82e5bb3ffeb89cf,0xf2daac7748083e94,0x22fc316d622a5257,0x68ee0981616fd70b,0xf5961c1b29b938ac,0x57166f42e93ea0f6,0xb26f306530cfb53f,0x804f6fbe81e7954a,0x910cae77927399c5,0x9d14bf3778bc191c,0x4c85f5c767c4a1b8,0x2fe69b68fb364354,0x98b61e4238e42491,0xbfc67a283368f6f0,0x5a87b76722c5db15]
def kGL3:List (BitVec 64):=[0x2cdc00c0d3a529b4,0x18346a47bde0226b,0x445a599f2aaa74e5,0x849502371b34f717,0x93a0e78e0a74372c,0x9c90fb960203ff5b,0x91e27dba8dfef7b3,0x8fb071870bfe9d88,0xfcec9ec4efc70f02,0xe63b7f245090d313,0x8fe9cae3431ae86c,0x5cc3248013b9cfe4,0x3546b7f2340139f5,0xab6e46e4bd42511b,0x6197c9531fa2137c,0xc2fca12e0928a11,0xf9bf24c246275468,0xb99ca426a3b2698,0x4be6b9325621b0a9,0xd107231b299ccc19,0x485ebf242aa5a4f1,0x32c5b525697ca424,0x4c27d4bb5440a91e,0x5fe596b160286829,0x9dda54b306ea1429]
def kGL4:List (BitVec 64):=[0xa0d2678d242e542b,0x5eff1571bb990f0,0x638c972916a2072d,0xd0a72c528a0cfae8,0x1f04ea1102c94349,0x2a53a37f7ac2cb77,0x3b2b71e06df90870,0x3fb56d91b6298bff,0x1b055247044ea1ee,0x6aa4732131c4b40e,0x218a4944a52d9c7a,0xecd58c382c3d79a6,0xea847cb18a471d14,0xb9d591a330fa59c9,0xad01618b65089046,0x272e4343151e8498,0x1cd004058f918b9c,0xd98f8575b983cb54,0xe7d8cefbb2fa4d7f,0xc9d759d7887e6d4e,0xb706140b731b3f0a,0x4db82af9f8884b81,0xce31d0290976e020,0xa7e704da23137924,0xa4abe421162c696d]
def kGL5:List (BitVec 64):=[0x117d4e6dbe95d67d,0x86d11a4e1dbd476,0x1388f872620f37c5,0xe45a2ba48514a964,0xf110d0bd4bee7029,0x4901be517134e619,0x7c73f9493d28ee3e,0xb0185479bdc1f87e,0x40c904ffffabe69d,0x518956a081541d20,0x31e3d24f601abac2,0x178816a5f9f9d93b,0xdc76d84a25b2d9b0,0x71dda599a22a18cf,0x5083a720629d5190,0x9ab19c3382c989c2,0xb5cae30956e82c6e,0x46a8ac4b3ed9de53,0x7e84e5026973c4e1,0xd6237c55012ba009,0xc11a7eed1a2182df,0x8fe8dc0dc4026de9,0x385b9de5c302f8f8,0x2243be241b84d380,0xde91dab180787560]
def kGL6:List (BitVec 64):=[0xfdaf431d7cf42440,0x18ccd7c6ab222052,0xb7df0cbd84567afc,0xf3db8da44431ea34,0x62c3c5ed4e93ccce,0xd1704ca4421d65c,0x49645997601c8f9c,0x975bb73d357824d3,0x289290b8c44e69d5,0xebfc6f9a41edbd4,0x70c4f54fb78d5b9b,0xedcd9d175b96815e,0xa57fd9e70c1f309b,0xd36e6e6aee636829,0x61bc7840b36cab09,0x1d1a029fd003848c,0xde1484e8420bb712,0x59e75a0791adc8ae,0xfb4e36f6fea50207,0xa1d6a7f45546fb23,0x964afee540e04836,0x3e1ae3871155520a,0x2b991087a1b7df11,0xf84a17a6e13226ad,0x97ca5df9e16b06ca]
def kGL7:List (BitVec 64):=[0x1c81bf3d06d1630b,0x15da6a512b68c85f,0x93ac565a10bc91cb,0x8e7402cd090e3e41,0x658cab25a0dea6f9,0xf68610eb61a39f0,0xd1bdab7dfed9bc30,0xb6447a36ed663a8c,0xc50f2646f46c82c8,0x3ca0162d18ebd54b,0xd9b5b0f7d53deef9,0xdd91c01f75047cc3,0x2fe50821eca6e08a,0xd2906cabf71114d,0x5bb4ed0659305404,0x760b965fbff4c075,0xa1311beee376d5c2,0xbc40cf605c5f503f,0x6d3258e44fb949e5,0xd2787f1db2b59dde,0x77ffbf9428bf4ada,0x9174925d764d54c9,0xe0843a3e31fbc5fd,0x53a8c82a09dbe018,0xe8f3b2e104a32082]
def kGL8:List (BitVec 64):=[0xf7f7f74921d7da24,0x53993b3824254e4d,0xf286ae942f1dfec6,0x5612aa516f4e91b3,0xe394715a5258048a,0xb9bf7d7ca38ba6ee,0xe33986cad4ddf680,0x9319223b49993a6d,0xe2453de8f5d1fb0d,0x55458f64186f985,0x85990b316c999c58,0x19a56a36900ee67e,0x77434f712d4fcdd8,0xc2008163fee439ed,0xd5bcb2c30fde302f,0xa29a7644fe61a49b,0xb020254789caefd9,0x6a949fda36f3c6e4,0x39759845e8f5b285,0xc2344720dc557f4b,0x86e5ade90d1c864f,0x69f0f0c6b08659b7,0x14baee9b176acbb4,0xf651801af4455f03,0xd42d8dd7a584105b]
def kGL9:List (BitVec 64):=[0x333dd07377738d07,0x3ec00dc373d7d84c,0x92456aaa0081702b,0xf71a2ce2db0689f,0x8d40340b8204bcd0,0xe4492d0ec76be3bf,0xf619230c1fc637b6,0x8f2ff2f454f9d52,0x6891f0c86358083d,0x50c13cfaaf7cffd8,0x4b942b9ccab3399b,0x49cf8834cf2ec460,0x78bd22934dd0792a,0x3fcf683e72713b4,0xe3e43ac3f21dcecf,0xc18d90d69c9ca64c,0x12f51c4cf64a82a7,0xb9c2a5f4dca57893,0xe841df0929e17e13,0x52a42f90f657b4bc,0x2c286d3f29c890ce,0x2eca3e9201e8340c,0x664426d88dacc8aa,0xabae62feabc2bc71,0xddaf2fc5e4484ecc]
def kGL10:List (BitVec 64):=[0x7c136a4d8392500f,0x2a647fc064536620,0xa4170853998a9670,0x9f9d2a1eb2d6a2f3,0x99c58196cb3b8015,0xbaad333c8410bf5b,0x49a3f4f8d68d4a84,0x7c9bd8f478aa4f0,0xf91e4b2d8fe40872,0x7381f6c36b34466a,0x9331d5e7c2cbb72,0x9e7209d3879e206d,0xec408d9452904d0c,0xfc527a1a4dc2e8b5,0xda0954a6f6bb9cd9,0x8b5b63e3af5cedf,0xb2382b82f74052ba,0x3f4932c9f7fc557f,0x889aefb5f3a4ef0e,0x46febeb2ce681157,0x9be6ab1980dbe3fe,0x241ae0d43f957a31,0x7d6bb3bde1ad027,0xb3f530176144f5e9,0x9644b779eee469e5]
def kGL11:List (BitVec 64):=[0x694f930e9c811897,0x4d52affdc0ee597e,0x9ecfed9052e1d249,0x47544483067d6af,0xb458cf4cd0a666d1,0xbdf80161e2172bfc,0xd12225ee97fd8bc,0xb3702f8d95368f29,0xb1daa09c603debc0,0x45e72d7c359578b8,0x11720bdbce6cef2b,0x941f695ce7e6c50b,0xa1299fac95954b9f,0xccdaa0f6a2fecf5d,0x81e57722243ab0bc,0x4993f9554cbd37ba,0xd11c1bbcf704a4b1,0xb8caa0e2d39348b8,0x9861a626e04b3661,0x84291e7d4e68c20b,0xf327701e6c1fcee5,0x4de764c9abed907f,0xc58c62e106701e5b,0xef688e66f012fbea,0x5f9fe267c003eb60]
def kGL12:List (BitVec 64):=[0xdbcc9bb0f8fc673c,0x2741895820dc864e,0x8147d7bb295f3cd7,0x609f68ef7041d91a,0x6fefa09fa7b9eb80,0xf230bba9ca23d0d7,0x8e1f3c0855fbde94,0x4cb2aa3169b646fd,0xe0b2d031a6819d99,0xde354035dbfa8525,0x836105ced7bc5873,0xdd1bf03c91821f1d,0xa17b2c02f89587d2,0xb452e0443f1f54c5,0xf0162936a5572100,0xb19c41b932263435,0xc45006d077b3b580,0xb7123963b589b497,0x7140da6391e0f649,0x8f49e4838138b57c,0x19c4ff3fe1e0246e,0x948be930df7e2cde,0x3bbfb4b02f0d1ad1,0xf480d6556d6fb245,0x4d62d0ccdc05df7]
def kGL13:List (BitVec 64):=[0x5f2e9d8f7dc1f93b,0xe813acc0f5fefa6a,0xff8e527651f0f0ea,0x8bd15ab47501a9a0,0x33808d36fdb06e72,0x37d68c638149b821,0xfe3f7ec2ee324096,0x2272b00a5d121e7b,0xcdb3c8d954e7e2dc,0xafa3c4fce7aead89,0xebc351eea7123fd9,0xd928f82afd922c41,0xf03d4e969541e4f8,0x3e82c9f3250f257a,0xbcfb9b75a1466aa8,0x88fe510a2eceda46,0x69fc2c97b5af9a2d,0xc5cf6b81553e8af8,0x1526fba0a7d76869,0xd780a9bf38446e87,0x73ac913bc2c5de98,0x2d520bc3c2dfb050,0xee664f3801a10def,0x97d48664a7696648,0x546521da94bfd1c1]
def kGL14:List (BitVec 64):=[0x678759f9c8250666,0x622f792859656aa5,0xdd2f63f080fe147,0x22eeb5b56f82269e,0x1f9dff2a7b77fb9,0xe837b2c35a9cb635,0x2e11cc3399ca272e,0xfd748e3a97668e4e,0xd61b33a9db386359,0x16354cee92466e26,0x39d4f3a1ea4835ff,0x3f3d70e2059a2702,0x2deeb7a49afc24ea,0x789ba25201f6badd,0x24bdcfec0a39717,0x5c34afd2b9c80fec,0xdf797f4629f5990b,0x4971fbe169768071,0xd504cf1f03b1d138,0x1e9e96b38171d3c4,0x79390eeeb218835d,0xa4c674dabd7b1cb3,0x1f7f13dd8d83a4a4,0x616ba4d92c22732e,0xe36cbd4fb19c0e65]
def kGL15:List (BitVec 64):=[0x5e01b12d2af906d1,0xab64cffe4b2ba282,0x6b8c58aad772ad9c,0x964b5cca518d504,0x816639d21156cfed,0x5419ddf3d3912421,0x8b81cde1802adc77,0x22f05ba848050997,0xd9ceacf913bf7282,0xae7e08553d305467,0x4bd51f2af1095db1,0x7a9ff684546e48e1,0x7496d2c760046e4c,0x4bbe79d42d9d8828,0xe8c993d410ac8097,0x84c199949cb81591,0x500133c91398b177,0x6829bb93fe83eee3,0x718b963dea155bf6,0xa38e12a7a429cc8,0x9c7329d29322a119,0x1e5794ae34d692fd,0x9be6101e4eb13e5e,0x18446f88b9ae8dad,0x868adb3436b33d48]
def kGL16:List (BitVec 64):=[0xb97bc6990a90953b,0xbb8c94adcded1ca7,0x1440d4393d9642c9,0x91d226eeacc52b6b,0xb3450c1311e7d12e,0xe182eb384e986ff1,0x4ed7d663a017f4fd,0x37788fee7e46a80,0xa9493322819575ac,0x6b12aa6accf4fb05,0xd9a2b13e34a0b93e,0xca34b7686d2bffbc,0x4c05128f1227e846,0x98deaa2c10f6af16,0x5bd6432c8bb8bda0,0x97b586385adb43bd,0x7aea38c3f22e2c7c,0xab061f1104cfe6dc,0x7fd26ad880434dc4,0x454afe267a32bca2,0x2ab2a67b9d94a09b,0xa34897f894d6459e,0x81f5f6647477406d,0x810d2182bc4c41c1,0xecca9e32b6f7f703]
def kGL17:List (BitVec 64):=[0x9c8ab64d31af0482,0xad15b750828c0662,0xeb6320bbff1f8318,0xf6e10eb069eb4718,0xe5d97f34d09cb0d8,0x834b5d531be1005c,0x7ea87da0de5cd510,0xe28da23a16c5f0d1,0x683403eea00c8687,0x4fd18895c6356bba,0xcc97c4174fe0d21b,0x6b8ce4f4a3bb0976,0x35398641fb991c8b,0xe9d7e50041001073,0x7b4b2f42a2f83da2,0xa6ef09e6eeeb7c4e,0xd82cfd72c02d8419,0x8497f1a856484cd7,0xd62430b87133787f,0x23a43b8c3d24fcae,0x1feeb1c4a6da34fb,0xa381510f4b0e52dc,0xdf186923f8673732,0xcf653460497f9701,0x525dd17603a862c5]
def kGL18:List (BitVec 64):=[0x324090f7412a426e,0xb632e1064c37c8b8,0x7f8bd35d1ee85550,0xa31b1c13f23c049b,0x40cbd70fb42c723d,0xd4a6dfcfec6c5767,0xa212b20e9e9f11f4,0xe0a797a3d8cbb1cd,0x426777bd4a590589,0xd850665aed2c284a,0x83a79db2ae88d0b8,0x6d960394468045be,0xe5d7afe2409fd71c,0x4bb97d56186dde91,0x78a7505d072cecb1,0xf16504e080add7,0xce84176a4086f745,0x9ac6b9ff299830d,0x557e25ba5c80494b,0x6bef5b8614e6bb72,0x7906fef3ea727cbb,0xf387097fc30cff28,0xa79adaacf2f74da4,0x2c3ac9315afe732e,0x9f3efac078231688]
def kGL19:List (BitVec 64):=[0x2fc73dab548ad038,0xec20173a7a3c481,0x80c273383c2c709e,0xea72fcb04b776d37,0xa4a2f35bd6c594f4,0x1111c9ad2de4d86a,0xef0cba2e452b23d3,0xf986877dd911178c,0xe22b6f91bd89c4a3,0x24a19e1a153421ce,0xd88b04393181467,0xc44a76e089298540,0x477a0a7291edcd4b,0x2332fa0696f62e9,0x4efc9c595ac43184,0xd3f99cfb69fdf7bc,0x1c0652b79a131d32,0xfdfbf018e63cc1d2,0x68f8c40b636ff449,0x72d76f1710b9f6bb,0x360f1cc5f1618098,0x24f031644f343d45,0x9390268c37182c58,0xfc3fa1322c5931fa,0x527f716518406af6]
def kGL20:List (BitVec 64):=[0x5bf41c362040043a,0xdf5e69d0a5f5a7c4,0xac97d03638b93451,0x7cc9a4605ff48447,0xcc088accae37fba2,0x6441aa305aac828e,0xc362a43f920041dc,0xc9971d919bce48e2,0x57b03dc08a91f4ea,0x8775233de50b7b24,0x75992e97344fc2ed,0x69c6c1b5f6705976,0x391e20a98b9c1b05,0x6b3f513ec76e1649,0xb7aee6a4f09797e4,0x8e9680a0693aab51,0x4644c9061827818c,0xabff73c5ad2dcfcf,0x578ecedac705aef9,0xde30804b56af35eb,0x387a4fbbc89b02ff,0x6bb462cce585e2d1,0xdafc25dfc8e7ed76,0xdae74086967e911a,0x84fb125ebdf97c9]
def kGL21:List (BitVec 64):=[0x98c5a4af9ed0a817,0x26736679b6d9ce05,0xdb85c250d15def82,0xf651d2757451f975,0x141ecffa05419958,0x70f652bcc25c8c63,0x2a6b87fa35cbbc0c,0x7a11fd8a549e6e1e,0xdc2e96137d1c43bc,0xcd1484ba72c721e5,0xfa4880d62d4dc076,0xf6adedc010d8b440,0xd98db047a9667c29,0x9e219c0a5abe03b8,0xfa07b9347d66bc8d,0x6d9a17ca57b77614,0x4be07b7eff883273,0xe6827e0e64fc3716,0xe4f09a3d43f8a7d5,0x97a24a024cde681c,0x1ab8fac8201d2e89,0xbed392950e0545e4,0xd13b87d38093b976,0x17cc1c28ffeaf437,0x953a0d8f12761587]
def kGL22:List (BitVec 64):=[0x36d9d8c65e571204,0xaf53e907af9ec573,0x18dc82d67e4a60ad,0xd7a5b642e4c83f70,0x913c39510082ce19,0x5346577ba7ff7ffc,0x1df11b192505005e,0x2480da3dea7621bf,0xdc685231498a0942,0x4e9633d107a2fbb3,0x98c0eb7a73686e60,0xd7eb00d3ce5819a6,0x70f1cb4665255583,0xdb73d5b9e8fe9b7b,0x55afd768d6fa011c,0xbd71a04fb5d36912,0x283983e4c6a0e295,0x767b191d0db55426,0x588a54ea0db77ee0,0xb4930001d8bf3031,0xb6a666f8f0562250,0x5f205441d41c2561,0x3b3401738840598e,0x644866269cc4c714,0x1a63874b6760fa64]
def kGL23:List (BitVec 64):=[0x169cd9e419add6de,0xcb2fec8aca4cf030,0x93373c9ad3581a54,0x4b306aa7c3c6c855,0x31082d421d9926e3,0xd049fdb8fdf3d8c4,0x7064fddde9f6b3b4,0x889fdc05c4a9129c,0xb3c7c216b7c88c8b,0x5d178605ccf00a42,0xc0bc99191a256eb2,0x87992059755e6da,0x7ca83ada0824359e,0xda53d7d2e8b41d87,0xd02a8cb3ccf65b84,0x38c2bbfa880a83fd,0x5563161d132536f7,0xf8d497f395a81988,0x8d6e432a3f93d6bd,0xab25045d90005321,0x759d2264c06295a2,0xdeca256653508ed6,0xf7778aafe34d42ce,0x54a375a690afa66,0x23f596cdd1155d72]
def kGL24:List (BitVec 64):=[0x55470cdba497b659,0x49f6e8c115624840,0xe61d298dada0a445,0xdd39f6fbc42190cd,0x758a6fe46027cf4e,0x405e65eec8bcec37,0x9a92b7db21e09996,0x292be5615cb959c0,0xb1a639a8d31b068b,0x995d0f851230251e,0xa4ddadd5bef8d38a,0x88185acd1d3030ba,0x12782753af96f6dc,0xebf6f1b2019d5957,0x9c4fd55b59a9e90e,0x15fee6f0f82f1577,0x1cc5fcfb3f3bc053,0x22e3b3cc11701200,0xbd263fde07bf4bb6,0x1a0532938a29a6ee,0xff8b86e52ca532ba,0x3bd95d3fe32b6646,0x6b8fe072bf674bb1,0xc481ea7b00bcb171,0x12be6f2e1f9e1401]
theorem kGR0:∀j:Nat,j < 25→rnd 0 (lk kGL0) j=lk kGL1 j:=by decide +kernel
theorem kGR1:∀j:Nat,j < 25→rnd 1 (lk kGL1) j=lk kGL2 j:=by decide +kernel
theorem kGR2:∀j:Nat,j < 25→rnd 2 (lk kGL2) j=lk kGL3 j:=by decide +kernel
theorem kGR3:∀j:Nat,j < 25→rnd 3 (lk kGL3) j=lk kGL4 j:=by decide +kernel
theorem kGR4:∀j:Nat,j < 25→rnd 4 (lk kGL4) j=lk kGL5 j:=by decide +kernel
theorem kGR5:∀j:Nat,j < 25→rnd 5 (lk kGL5) j=lk kGL6 j:=by decide +kernel
theorem kGR6:∀j:Nat,j < 25→rnd 6 (lk kGL6) j=lk kGL7 j:=by decide +kernel
theorem kGR7:∀j:Nat,j < 25→rnd 7 (lk kGL7) j=lk kGL8 j:=by decide +kernel
theorem kGR8:∀j:Nat,j < 25→rnd 8 (lk kGL8) j=lk kGL9 j:=by decide +kernel
theorem kGR9:∀j:Nat,j < 25→rnd 9 (lk kGL9) j=lk kGL10 j:=by decide +kernel
theorem kGR10:∀j:Nat,j < 25→rnd 10 (lk kGL10) j=lk kGL11 j:=by decide +kernel
theorem kGR11:∀j:Nat,j < 25→rnd 11 (lk kGL11) j=lk kGL12 j:=by decide +kernel
theorem kGR12:∀j:Nat,j < 25→rnd 12 (lk kGL12) j=lk kGL13 j:=by decide +kernel
theorem kGR13:∀j:Nat,j < 25→rnd 13 (lk kGL13) j=lk kGL14 j:=by decide +kernel
theorem kGR14:∀j:Nat,j < 25→rnd 14 (lk kGL14) j=lk kGL15 j:=by decide +kernel
theorem kGR15:∀j:Nat,j < 25→rnd 15 (lk kGL15) j=lk kGL16 j:=by decide +kernel
theorem kGR16:∀j:Nat,j < 25→rnd 16 (lk kGL16) j=lk kGL17 j:=by decide +kernel
theorem kGR17:∀j:Nat,j < 25→rnd 17 (lk kGL17) j=lk kGL18 j:=by decide +kernel
theorem kGR18:∀j:Nat,j < 25→rnd 18 (lk kGL18) j=lk kGL19 j:=by decide +kernel
theorem kGR19:∀j:Nat,j < 25→rnd 19 (lk kGL19) j=lk kGL20 j:=by decide +kernel
theorem kGR20:∀j:Nat,j < 25→rnd 20 (lk kGL20) j=lk kGL21 j:=by decide +kernel
theorem kGR21:∀j:Nat,j < 25→rnd 21 (lk kGL21) j=lk kGL22 j:=by decide +kernel
theorem kGR22:∀j:Nat,j < 25→rnd 22 (lk kGL22) j=lk kGL23 j:=by decide +kernel
theorem kGR23:∀j:Nat,j < 25→rnd 23 (lk kGL23) j=lk kGL24 j:=by decide +kernel
theorem kGS0:∀j:Nat,j < 25→rnds 0 (xorB zeroS (padB kGm)) j=lk kGL0 j:=by decide +kernel
theorem kGS1:∀j:Nat,j < 25→rnds 1 (xorB zeroS (padB kGm)) j=lk kGL1 j:=fun j hj=>(rnd_congr 0 kGS0 j hj).trans (kGR0 j hj)
theorem kGS2:∀j:Nat,j < 25→rnds 2 (xorB zeroS (padB kGm)) j=lk kGL2 j:=fun j hj=>(rnd_congr 1 kGS1 j hj).trans (kGR1 j hj)
theorem kGS3:∀j:Nat,j < 25→rnds 3 (xorB zeroS (padB kGm)) j=lk kGL3 j:=fun j hj=>(rnd_congr 2 kGS2 j hj).trans (kGR2 j hj)
theorem kGS4:∀j:Nat,j < 25→rnds 4 (xorB zeroS (padB kGm)) j=lk kGL4 j:=fun j hj=>(rnd_congr 3 kGS3 j hj).trans (kGR3 j hj)
theorem kGS5:∀j:Nat,j < 25→rnds 5 (xorB zeroS (padB kGm)) j=lk kGL5 j:=fun j hj=>(rnd_congr 4 kGS4 j hj).trans (kGR4 j hj)
theorem kGS6:∀j:Nat,j < 25→rnds 6 (xorB zeroS (padB kGm)) j=lk kGL6 j:=fun j hj=>(rnd_congr 5 kGS5 j hj).trans (kGR5 j hj)
theorem kGS7:∀j:Nat,j < 25→rnds 7 (xorB zeroS (padB kGm)) j=lk kGL7 j:=fun j hj=>(rnd_congr 6 kGS6 j hj).trans (kGR6 j hj)
theorem kGS8:∀j:Nat,j < 25→rnds 8 (xorB zeroS (padB kGm)) j=lk kGL8 j:=fun j hj=>(rnd_congr 7 kGS7 j hj).trans (kGR7 j hj)
theorem kGS9:∀j:Nat,j < 25→rnds 9 (xorB zeroS (padB kGm)) j=lk kGL9 j:=fun j hj=>(rnd_congr 8 kGS8 j hj).trans (kGR8 j hj)
theorem kGS10:∀j:Nat,j < 25→rnds 10 (xorB zeroS (padB kGm)) j=lk kGL10 j:=fun j hj=>(rnd_congr 9 kGS9 j hj).trans (kGR9 j hj)
theorem kGS11:∀j:Nat,j < 25→rnds 11 (xorB zeroS (padB kGm)) j=lk kGL11 j:=fun j hj=>(rnd_congr 10 kGS10 j hj).trans (kGR10 j hj)
theorem kGS12:∀j:Nat,j < 25→rnds 12 (xorB zeroS (padB kGm)) j=lk kGL12 j:=fun j hj=>(rnd_congr 11 kGS11 j hj).trans (kGR11 j hj)
theorem kGS13:∀j:Nat,j < 25→rnds 13 (xorB zeroS (padB kGm)) j=lk kGL13 j:=fun j hj=>(rnd_congr 12 kGS12 j hj).trans (kGR12 j hj)
theorem kGS14:∀j:Nat,j < 25→rnds 14 (xorB zeroS (padB kGm)) j=lk kGL14 j:=fun j hj=>(rnd_congr 13 kGS13 j hj).trans (kGR13 j hj)
theorem kGS15:∀j:Nat,j < 25→rnds 15 (xorB zeroS (padB kGm)) j=lk kGL15 j:=fun j hj=>(rnd_congr 14 kGS14 j hj).trans (kGR14 j hj)
theorem kGS16:∀j:Nat,j < 25→rnds 16 (xorB zeroS (padB kGm)) j=lk kGL16 j:=fun j hj=>(rnd_congr 15 kGS15 j hj).trans (kGR15 j hj)
theorem kGS17:∀j:Nat,j < 25→rnds 17 (xorB zeroS (padB kGm)) j=lk kGL17 j:=fun j hj=>(rnd_congr 16 kGS16 j hj).trans (kGR16 j hj)
theorem kGS18:∀j:Nat,j < 25→rnds 18 (xorB zeroS (padB kGm)) j=lk kGL18 j:=fun j hj=>(rnd_congr 17 kGS17 j hj).trans (kGR17 j hj)
theorem kGS19:∀j:Nat,j < 25→rnds 19 (xorB zeroS (padB kGm)) j=lk kGL19 j:=fun j hj=>(rnd_congr 18 kGS18 j hj).trans (kGR18 j hj)
theorem kGS20:∀j:Nat,j < 25→rnds 20 (xorB zeroS (padB kGm)) j=lk kGL20 j:=fun j hj=>(rnd_congr 19 kGS19 j hj).trans (kGR19 j hj)
theorem kGS21:∀j:Nat,j < 25→rnds 21 (xorB zeroS (padB kGm)) j=lk kGL21 j:=fun j hj=>(rnd_congr 20 kGS20 j hj).trans (kGR20 j hj)
theorem kGS22:∀j:Nat,j < 25→rnds 22 (xorB zeroS (padB kGm)) j=lk kGL22 j:=fun j hj=>(rnd_congr 21 kGS21 j hj).trans (kGR21 j hj)
theorem kGS23:∀j:Nat,j < 25→rnds 23 (xorB zeroS (padB kGm)) j=lk kGL23 j:=fun j hj=>(rnd_congr 22 kGS22 j hj).trans (kGR22 j hj)
theorem kGS24:∀j:Nat,j < 25→rnds 24 (xorB zeroS (padB kGm)) j=lk kGL24 j:=fun j hj=>(rnd_congr 23 kGS23 j hj).trans (kGR23 j hj)
theorem kG_last (j:Nat) (h:j < 25):lastS kGm j=lk kGL24 j:=kGS24 j h
theorem kG_sum:sumOf kGm=kGh:=by
 have e:sumOf kGm=(List.range 32).map (outAt (lk kGL24)):=by
  unfold sumOf
  refine List.map_congr_left (fun i hi=>?_)
  have hi:=List.mem_range.1 hi
  simp only [outAt,kG_last (i / 8) (by omega)]
 rw [e]; decide +kernel
end Go.Vcg
end
section
namespace Go.Proofs.YtfghidehlnfdiaaGreat
open Go Go.Vcg Go.Trie
theorem leaf_bytes:bytesOf (.leaf (nibbles [97]) [49])=kGm:=by kernel_rfl
theorem leaf_root:rootOf (.leaf (nibbles [97]) [49])=kGh:=(congrArg sumOf leaf_bytes).trans kG_sum
theorem trie_of (m:List (By×By)) (hs:SortedM m) (hk:∀e∈m,e.1.length≤64) (hv:∀e∈m,e.2≠[]∧e.2.length≤1024):∃n,Rep (pathsOf m) n∧Canon n∧Fits n∧cnt n≤4 * m.length:=by
 generalize hl:m.length=l
 induction l generalizing m with
 | zero =>
   obtain rfl:=List.eq_nil_of_length_eq_zero hl
   exact ⟨.nil,rep_nil,trivial,fits_nil,by simp [cnt]⟩
 | succ l ih =>
   rcases List.eq_nil_or_concat m with rfl | ⟨m',x,rfl⟩
   ·cases hl
   ·rw [List.concat_eq_append] at *
    have hs':SortedM m':=(List.pairwise_append.1 hs).1
    obtain ⟨n,h1,h2,h3,h4⟩:=ih m' hs' (fun e he=>hk e (List.mem_append_left _ he)) (fun e he=>hv e (List.mem_append_left _ he)) (by simpa using hl)
    have hx:=hv x (by simp)
    have hxk:=hk x (by simp)
    have hxl:=nibbles_len x.1
    have hr:=rep_put h1 hs' h2 hx.1 (k:=x.1)
    rw [putM_snoc hs hx.1] at hr
    have:=cnt_put n (nibbles x.1) x.2
    exact ⟨_,hr,(put_ok h2 (nib_nibbles _) hx.1).1,h3.put h2 (nib_nibbles _) hx.1 (by omega) hx.2,by omega⟩
theorem one_rep:Rep (pathsOf [([97],[49])]) (.leaf (nibbles [97]) [49])∧Canon (.leaf (nibbles [97]) [49])∧Small (.leaf (nibbles [97]) [49]):=by
 have e:Trie.put .nil (nibbles [97]) [49]=.leaf (nibbles [97]) [49]:=by simp [Trie.put]
 have h1:=rep_put (k:=[97]) (v:=[49]) rep_nil List.Pairwise.nil trivial (by simp)
 have h2:=(put_ok (n:=.nil) (p:=nibbles [97]) (x:=[49]) trivial (nib_nibbles _) (by simp)).1
 have h3:=Fits.put (p:=nibbles [97]) (x:=[49]) fits_nil trivial (nib_nibbles _) (by simp) (by decide) (by decide)
 rw [e] at h1 h2 h3
 exact ⟨h1,h2,small_of h2 h3⟩
theorem kGh_ne:kGh≠emptyH:=by
 have:emptyH=kFh:=kF_sum
 rw [this]; decide
theorem way_leaf {σ:Type} {step:σ→By→σ×Except Int By} {s s':σ} {path:By} (hn:∀n∈path,n.toNat < 16) (h:step s kGh=(s',.ok kGm)):way step s (.s kGh) path=(s',.ok (if [6,1]=path then [49] else [])):=by
 have hc:checkOf kGm=0:=by kernel_rfl
 have hd:dcod kGm=.ok (.l [.s [32,97],.s [49]]):=by kernel_rfl
 obtain ⟨xs,hd',_,hg⟩:=check_node hc
 rw [hd] at hd'
 cases hd'
 have hh:headIs (.s [32,97])=some ([6,1],true):=by kernel_rfl
 rw [way_hash (by decide) h hc hd hg hn,node_leaf (xs:=[.s [32,97],.s [49]]) rfl hh]
 rfl
theorem prove1:proveR [(kGh,kGm)] kGh [97]=.ok [kGm]:=by
 rw [proveR_way (by decide) (by decide)]
 have h:pStep [(kGh,kGm)] [] kGh=([kGm],.ok kGm):=by kernel_rfl
 have hr:rootIt kGh=.s kGh:=if_neg kGh_ne
 rw [hr,way_leaf (nib_lt _) h]
theorem verify1 (key:By) (hk:key.length≤64):verifyR [kGm] kGh key=.ok (if [6,1]=nibbles key then [49] else []):=by
 rw [verifyR_way (by decide) (by omega)]
 have h:vStep [kGm] 0 kGh=(1,.ok kGm):=by
  unfold vStep
  simp only [List.getElem?_cons_zero,kG_sum,if_true]
 have hr:rootIt kGh=.s kGh:=if_neg kGh_ne
 rw [hr,way_leaf (nib_lt _) h]
 rfl
theorem LsOwn.any {w w':World} {lab:Nat→Nat} {c cb:Nat} {ls:List By} {o:Option Addr} {n k:Nat} (h:LsOwn w lab c cb ls o n k) (M:Vcg.Mod NoB w w'):n=ls.length∧RdLs w' (fun _=>0) 0 ls o :=
 ⟨h.1,(h.stp (S:=NoS) (Stp.of_nob M 0) (fun h=>h) (fun h=>h)).read (fun _ _ _=>rfl)⟩
theorem ProveIs.ok {l:List (By×By)} {root key:By} {out:List By} {w w':World} {e:Ending} (h:ProveIs l root key w e w') (hr:proveR l root key=.ok out):Vcg.Mod NoB w w'∧∃o n k,e=.returned (.tuple #[.slice o n k,.int .i64 0])∧∃lab' c cb,LsOwn w' lab' c cb out o n k:=by
 obtain ⟨h1,h2⟩:=h
 rw [hr] at h2
 exact ⟨h1,h2⟩
theorem VerifyIs.ok {p:List By} {root key v:By} {w w':World} {e:Ending} (h:VerifyIs p root key w e w') (hr:verifyR p root key=.ok v):Vcg.Mod NoB w w'∧∃o k,e=.returned (.tuple #[.slice o v.length k,.bool (decide (v≠[])),.int .i64 0])∧RdB w' o v:=by
 obtain ⟨h1,h2⟩:=h
 rw [hr] at h2
 exact ⟨h1,h2⟩
theorem verify1a:verifyR [kGm] kGh [97]=.ok [49]:=by rw [verify1 _ (by decide),if_pos (by kernel_rfl)]
theorem verify1b:verifyR [kGm] kGh [98]=.ok []:=by rw [verify1 _ (by decide),if_neg (by decide)]
theorem known16_calls (w:World):Calls Tryz.prog morainelaw16_known.n #[] w (fun e w'=>e=.returned (.bool true)∧Vcg.Mod NoB w w'):=by
 refine calls_gen fun Q hQ=>morainelaw16_known.vc _ _ ?_
 have tail:∀{w30:World} {D:Nat} {oN oK:Option Addr} {kN kK:Nat},Vcg.Mod NoB w w30→Blk w30 D 27 (hashA kGh)→NdRow w30 (fun _=>0) 0 [(kGh,kGm)] oN 1→RdB w30 oK [97]→∀(d22:Addr),d22=⟨D,0,none⟩ →
  Calls Tryz.prog 21 #[.slice oN 1 kN,.agg (hashA kGh),.slice oK 1 kK] w30 (fun e39 w40 =>
  ∃o41 l42 l43 n44,e39=.returned (.tuple #[(.slice o41 l42 l43),(.int .i64 n44)]) ∧
  ∃L45,RowAt w40 d22 32 L45 ∧
  ∀d46 w47,IsNew w40 5 #[(.int .u8 97)] d46 w47 →
  ∃v48 w49,Sem.run Tryz.prog (convert 23 23 (.slice (some d46) 1 1)) w47=.ok v48 w49 ∧
  ∃o50 l51 l52,v48=(.slice o50 l51 l52) ∧
  Calls Tryz.prog 22 #[(.agg L45),(.slice o50 l51 l52),(.slice o41 l42 l43)] w49 (fun e53 w54 =>
  ∃o55 l56 l57 b58 n59,e53=.returned (.tuple #[(.slice o55 l56 l57),(.bool b58),(.int .i64 n59)]) ∧
  ∃L60,RowAt w54 d22 32 L60 ∧
  ∀d61 w62,IsNew w54 5 #[(.int .u8 98)] d61 w62 →
  ∃v63 w64,Sem.run Tryz.prog (convert 23 23 (.slice (some d61) 1 1)) w62=.ok v63 w64 ∧
  ∃o65 l66 l67,v63=(.slice o65 l66 l67) ∧
  Calls Tryz.prog 22 #[(.agg L60),(.slice o65 l66 l67),(.slice o41 l42 l43)] w64 (fun e68 w69 =>
  ∃o70 l71 l72 b73 n74,e68=.returned (.tuple #[(.slice o70 l71 l72),(.bool b73),(.int .i64 n74)]) ∧
  (((n44=0 →
  (((n59=0 →
  (((n74=0 →
  (((b58=true →
  (((b73=false →
  (((((l42:Nat):Int)=1 →
  ∃v75,Sem.run Tryz.prog (convert 23 9 (.slice o55 l56 l57)) w69=.ok v75 w69 ∧
  ∃s76,v75=(.string s76) ∧
  Q (.returned (.bool (strB .eql s76 ⟨#[49]⟩))) w69)) ∧
  ((((l42:Nat):Int)≠1 →
  Q (.returned (.bool false)) w69))))) ∧
  ((b73=true →
  Q (.returned (.bool false)) w69))))) ∧
  ((b58=false →
  Q (.returned (.bool false)) w69))))) ∧
  ((n74≠0 →
  Q (.returned (.bool false)) w69))))) ∧
  ((n59≠0 →
  Q (.returned (.bool false)) w69))))) ∧
  ((n44≠0 →
  Q (.returned (.bool false)) w69)))))):=by
  rintro w30 D oN oK kN kK M H N r _ rfl
  refine (Prove_calls (l:=[(kGh,kGm)]) (key:=[97]) N (by decide) (by simp [kGm]) (by decide) r).mono ?_
  intro e w40 hp
  obtain ⟨M40,op,np,kp,rfl,labp,c,cb,hO⟩:=hp.ok prove1
  refine ⟨_,_,_,_,rfl,_,(H.mod' M40).rowAll (size_hashA _),?_⟩
  rintro d w47 ⟨rfl,rfl⟩
  obtain ⟨w49,h49,M49,r49⟩:=lit_bytes w40 (bs:=[97]) (A:=#[(.int .u8 97)]) rfl 1 1
  obtain ⟨rfl,hL⟩:=hO.any M49
  refine ⟨_,w49,h49,_,_,_,rfl,?_⟩
  refine (Verify_calls (p:=[kGm]) (key:=[97]) (root:=kGh) hL (by decide) (by simp [kGm]) (by decide) r49).mono ?_
  intro e w54 hv
  obtain ⟨M54,ov,kv,rfl,hrv⟩:=hv.ok verify1a
  have M4054:=M49.none_trans M54
  refine ⟨_,_,_,_,_,rfl,_,((H.mod' M40).mod' M4054).rowAll (size_hashA _),?_⟩
  rintro d w62 ⟨rfl,rfl⟩
  obtain ⟨w64,h64,M64,r64⟩:=lit_bytes w54 (bs:=[98]) (A:=#[(.int .u8 98)]) rfl 1 1
  obtain ⟨_,hL2⟩:=hO.any (M4054.none_trans M64)
  refine ⟨_,w64,h64,_,_,_,rfl,?_⟩
  refine (Verify_calls (p:=[kGm]) (key:=[98]) (root:=kGh) hL2 (by decide) (by simp [kGm]) (by decide) r64).mono ?_
  intro e w69 hv2
  obtain ⟨M69,ov2,kv2,rfl,_⟩:=hv2.ok verify1b
  have Mall:Vcg.Mod NoB w w69:=((M.none_trans M40).none_trans M4054).none_trans (M64.none_trans M69)
  refine ⟨_,_,_,_,_,rfl,fun _=>⟨fun _=>⟨fun _=>⟨fun _=>⟨fun _=>⟨fun _=>⟨_,toStr (hrv.mod' (M64.none_trans M69)),_,rfl,hQ _ _ ⟨?_,Mall⟩⟩,fun h=>(h rfl).elim⟩,fun h=>(by cases h)⟩,fun h=>(by cases h)⟩,fun h=>(h rfl).elim⟩,fun h=>(h rfl).elim⟩,fun h=>(h rfl).elim⟩
  have e:strB .eql (strOf [49]) ⟨#[49]⟩=true:=strB_strOf [49] [49]
  rw [e]
 unfold morainelaw16_known.Vc
 rintro d w1 ⟨rfl,rfl⟩
 obtain ⟨w2,h2,M2,r2⟩:=lit_bytes w (bs:=[97]) (A:=#[(.int .u8 97)]) rfl 1 1
 refine ⟨_,w2,h2,_,_,_,rfl,?_⟩
 rintro d w3 ⟨rfl,rfl⟩
 obtain ⟨w4,h4,M4,r4⟩:=lit_bytes w2 (bs:=[49]) (A:=#[(.int .u8 49)]) rfl 1 1
 refine ⟨_,w4,h4,_,_,_,rfl,?_⟩
 rintro d w5 ⟨rfl,rfl⟩
 have M5:=Mod.alloc (S:=NoB) w4 (.cells #[(.slice (some ⟨w.heap.size,0,none⟩) 1 1),(.slice (some ⟨w2.heap.size,0,none⟩) 1 1)] 53)
 have B5:=Blk.new w4 53 #[(.slice (some ⟨w.heap.size,0,none⟩) 1 1),(.slice (some ⟨w2.heap.size,0,none⟩) 1 1)]
 have r2':=r2.mod' (M4.none_trans M5)
 have r4':=r4.mod' M5
 have M05:=(M2.none_trans M4).none_trans M5
 have hKv:KvRow _ (fun _=>0) 0 (some ⟨w4.heap.size,0,none⟩) [([97],[49])]:=fun j hj=>by
  obtain rfl:j=0:=by simpa using hj
  exact ⟨_,_,_,_,_,_,rfl,B5.lt,rfl,B5.cell 0,⟨r2',fun _ _ _=>rfl⟩,B5.cell 1,⟨r4',fun _ _ _=>rfl⟩⟩
 obtain ⟨p1,p2,p3⟩:=one_rep
 generalize w4.alloc (.cells #[(.slice (some ⟨w.heap.size,0,none⟩) 1 1),(.slice (some ⟨w2.heap.size,0,none⟩) 1 1)] 53)=w6 at *
 refine (Of_calls hKv ⟨by decide,by simp,by simp⟩ p1 p2 p3 (by simp [cnt]) 0).mono ?_
 rintro _ w7 ⟨o7,k7,rfl,M7,N7⟩
 have hN7:NdRow w7 (fun _=>0) 0 [(kGh,kGm)] o7 1:=by
  rw [nodes_leaf,leaf_root,leaf_bytes] at N7
  exact N7.re (fun _ _ _=>rfl)
 have hlen:(nodesOf (.leaf (nibbles [97]) [49])).length=1:=by rw [nodes_leaf]; rfl
 rw [hlen,leaf_root]
 refine ⟨_,_,_,_,rfl,?_⟩
 rintro d w8 ⟨rfl,rfl⟩
 have H8:=Blk.new w7 27 (Array.replicate 32 (.int .u8 0))
 obtain ⟨g1,g2,g3⟩:=hash_store H8 (by simp) kGh
 have M8:=mod_of (Mod.alloc w7 (.cells (Array.replicate 32 (.int .u8 0)) 27)) g3 (Nat.le_refl _)
 refine ⟨_,g1,?_⟩
 have M08:=(M05.none_trans M7).none_trans M8
 have N8:NdRow _ (fun _=>0) 0 [(kGh,kGm)] o7 1:=(hN7.stp (S:=NoS) (Stp.of_nob M8 0) (fun h=>h)).re (lab':=fun _=>0) (c':=0) (fun _ _ _=>rfl)
 generalize w7.heap.size=D at *
 generalize ((w7.alloc (.cells (Array.replicate 32 (.int .u8 0)) 27)).setRow D (hashA kGh))=w8 at *
 rintro _ rfl
 have H9:=g2.drew
 have M09:=M08.step_drew
 have N9:NdRow w8.drew (fun _=>0) 0 [(kGh,kGm)] o7 1:=(N8.stp (S:=NoS) (Stp.drew _ _ _) (fun h=>h)).re (lab':=fun _=>0) (c':=0) (fun _ _ _=>rfl)
 generalize w8.drew=w9 at *
 refine ⟨_,H9.rowAll (size_hashA _),?_,?_⟩
 ·refine (rNodes_calls (k:=k7) N9 (by simp [kGm]) (by decide) 0).mono ?_
  rintro _ w10 ⟨o10,k10,rfl,_,M10,N10⟩
  refine ⟨_,_,_,rfl,(H9.mod' M10).rowAll (size_hashA _),?_⟩
  rintro d w11 ⟨rfl,rfl⟩
  obtain ⟨w12,h12,M12,r12⟩:=lit_bytes w10 (bs:=[97]) (A:=#[(.int .u8 97)]) rfl 1 1
  have Ma:=Mod.alloc (S:=NoB) w10 (.cells #[(.int .u8 97)] 5)
  refine ⟨((H9.mod' M10).mod' Ma).rowAll (size_hashA _),_,w12,h12,_,_,_,rfl,((H9.mod' M10).mod' M12).rowAll (size_hashA _),?_⟩
  exact tail ((M09.none_trans M10).none_trans M12) ((H9.mod' M10).mod' M12) ((N10.stp (S:=NoS) (Stp.of_nob M12 0) (fun h=>h)).re (fun _ _ _=>rfl)) r12 _ rfl
 ·rintro d w11 ⟨rfl,rfl⟩
  obtain ⟨w12,h12,M12,r12⟩:=lit_bytes w9 (bs:=[97]) (A:=#[(.int .u8 97)]) rfl 1 1
  have Ma:=Mod.alloc (S:=NoB) w9 (.cells #[(.int .u8 97)] 5)
  refine ⟨(H9.mod' Ma).rowAll (size_hashA _),?_,?_⟩
  ·have Na:NdRow _ (fun _=>0) 0 [(kGh,kGm)] o7 1:=(N9.stp (S:=NoS) (Stp.of_nob Ma 0) (fun h=>h)).re (lab':=fun _=>0) (c':=0) (fun _ _ _=>rfl)
   have Ba:=Blk.new w9 5 #[(.int .u8 97)]
   have Ha:=H9.mod' Ma
   have hDE:=Nat.ne_of_lt H9.lt
   have hE:w9.heap.size≤w9.heap.size:=Nat.le_refl _
   generalize hEe:w9.heap.size=E at Ba hDE h12 M12 r12 ⊢
   rw [hEe] at hE
   generalize w9.alloc (.cells #[(.int .u8 97)] 5)=wa at *
   refine (rNodes_calls (k:=k7) (Na.re (lab':=fun _=>1) (c':=1) (fun _ _ _=>rfl)) (by simp [kGm]) (by decide) 0).mono ?_
   rintro _ w10 ⟨o10,k10,rfl,_,M10,N10⟩
   have B10:=Ba.mod' M10
   obtain ⟨wc,hc,Mc,hcc⟩:=convert_same (P:=Tryz.prog) (t:=tSlU8) (l:=1) (c:=1) und_slU8 (by kernel_rfl) B10
   have Hc:=(Ha.mod' M10).mod Mc (by intro e; exact hDE e)
   have M9c:Vcg.Mod NoB w9 wc:=mod_of (Ma.none_trans M10) Mc (Nat.le_of_eq hEe)
   have sc:Stp (·=1) w10 (ext (fun _=>1) wa.heap.size 0) wc (ext (ext (fun _=>1) wa.heap.size 0) w10.heap.size 0):=Stp.of_mod Mc 0 (fun q _ e=>by rw [e]; exact ext_old Ba.lt)
   refine ⟨_,_,_,rfl,(Ha.mod' M10).rowAll (size_hashA _),_,wc,hc,_,_,_,rfl,Hc.rowAll (size_hashA _),?_⟩
   have rc:RdB wc (some ⟨E,0,none⟩) [97]:=fun hne=>⟨E,0,rfl,Nat.lt_of_lt_of_le B10.lt Mc.size,fun i hi=>by
    obtain rfl:i=0:=by simpa using hi
    rw [hcc,B10.cell]; rfl⟩
   exact tail (M09.none_trans M9c) Hc ((N10.stp sc (by decide)).re (fun _ _ _=>rfl)) rc _ rfl
  ·refine ⟨_,w12,h12,_,_,_,rfl,(H9.mod' M12).rowAll (size_hashA _),?_⟩
   have N12:NdRow w12 (fun _=>0) 0 [(kGh,kGm)] o7 1:=(N9.stp (S:=NoS) (Stp.of_nob M12 0) (fun h=>h)).re (lab':=fun _=>0) (c':=0) (fun _ _ _=>rfl)
   refine (rNodes_calls (k:=k7) N12 (by simp [kGm]) (by decide) 0).mono ?_
   rintro _ w13 ⟨o13,k13,rfl,_,M13,N13⟩
   refine ⟨_,_,_,rfl,((H9.mod' M12).mod' M13).rowAll (size_hashA _),?_⟩
   exact tail ((M09.none_trans M12).none_trans M13) ((H9.mod' M12).mod' M13) (N13.re (fun _ _ _=>rfl)) (r12.mod' M13) _ rfl
end Go.Proofs.YtfghidehlnfdiaaGreat
end
section
namespace Go.Proofs.YtfghidehlnfdiaaGreat
open Go Go.Vcg Go.Trie
theorem eq_bool {w:World} (x y:Operand) (a:Bool):Sem.run Tryz.prog (semBin .eql 4 x y (.bool a) (.bool a)) w=.ok (.bool true) w:=by
 cases a <;> kernel_rfl
end Go.Proofs.YtfghidehlnfdiaaGreat
end
section
namespace Go.Proofs.YtfghidehlnfdiaaGreat
open Go Go.Vcg Go.Trie
theorem RdLs.mod' {w w':World} {lab:Nat→Nat} {c:Nat} {ls:List By} {o:Option Addr} (h:RdLs w lab c ls o) (M:Vcg.Mod NoB w w'):RdLs w' (fun _=>0) 0 ls o :=
 RdLs.re (h.stp (S:=NoS) (Stp.of_nob M c) (fun h=>h)) (fun _ _ _=>rfl)
def vAns:Except Int By→By×Bool×Int
 | .error er=>([],false,er)
 | .ok v=>(v,decide (v≠[]),0)
theorem VerifyIs.ans {p:List By} {root key:By} {w w':World} {e:Ending} (h:VerifyIs p root key w e w'):Vcg.Mod NoB w w'∧∃o k,e=.returned (.tuple #[.slice o (vAns (verifyR p root key)).1.length k,.bool (vAns (verifyR p root key)).2.1,.int .i64 (vAns (verifyR p root key)).2.2])∧RdB w' o (vAns (verifyR p root key)).1:=by
 obtain ⟨M,h⟩:=h
 refine ⟨M,?_⟩
 generalize verifyR p root key=r at h
 cases r with
 | error er=>exact ⟨none,0,h.2,fun h=>(h rfl).elim⟩
 | ok v=>exact h
theorem Takes_calls (w:World) {o2 ok:Option Addr} {k2 kk:Nat} {root key:By} {p:List By} (hroot:root.length=32) (hkey:RdB w ok key) {lab:Nat→Nat} {c:Nat} (hp:RdLs w lab c p o2) :
 Calls Tryz.prog morainelaw16_ProofTakes.n #[.agg (hashA root),.slice ok key.length kk,.slice o2 p.length k2] w (fun e w'=>e=.returned (.bool true)∧Vcg.Mod NoB w w'):=by
 refine morainelaw16_ProofTakes.vc _ _ _ _ _ _ _ _ _ ?_
 unfold morainelaw16_ProofTakes.Vc
 rintro d w1 ⟨rfl,rfl⟩
 have M1:=Mod.alloc (S:=NoB) w (.cells (hashA root) 27)
 have X1:=Blk.new w 27 (hashA root)
 generalize w.heap.size=D at *
 generalize w.alloc (.cells (hashA root) 27)=w1 at *
 refine (known16_calls w1).mono ?_
 rintro _ w2 ⟨rfl,M12⟩
 have M2:=M1.none_trans M12
 have X2:=X1.mod' M12
 refine ⟨_,rfl,fun h=>(by cases h),fun _=>⟨fun _=>⟨rfl,M2⟩,fun hl=>?_⟩⟩
 have hp2:=hp.mod' M2
 refine ⟨fun i w'=>∃j:Nat,i=(j:Int)∧j≤p.length∧w'=w2∧∀(q:Nat) (hq:q < p.length),q < j→p[q].length≤3000,fun i _=>((p.length:Int) - i).toNat,⟨0,rfl,Nat.zero_le _,rfl,fun q hq h=>by omega⟩,?_⟩
 rintro _ _ w3 ⟨j,rfl,hj,rfl,hall⟩
 refine ⟨fun hlt=>?_,fun hge=>?_⟩
 ·have hjl:j < p.length:=by omega
  obtain ⟨d,ob,kb,rfl,h1,h2,h3⟩:=hp2.cell hjl (Mod.refl _)
  refine ⟨_,rfl,⟨by omega,by omega⟩,_,_,_,h1,fun _=>⟨rfl,M2⟩,fun hs=>⟨⟨j+1,by rw [wrap_i64_small (by omega) (by omega)]; omega,hjl,rfl,fun q hq hqj=>?_⟩,by dsimp only; rw [wrap_i64_small (by omega) (by omega)]; omega⟩⟩
  by_cases hqe:q=j
  ·subst hqe; omega
  ·exact hall q hq (by omega)
 ·have hall':∀x∈p,x.length≤2 ^ 30:=fun x hx=>by
   obtain ⟨q,hq,rfl⟩:=List.getElem_of_mem hx
   have:=hall q hq (by omega)
   omega
  refine (CopyLists_calls (k:=k2) hp2 (by omega) hall').mono ?_
  rintro _ w4 ⟨L,o4,k4,rfl,M4,hL,_⟩
  have M04:=M2.none_trans M4
  have X4:=X2.mod' M4
  refine ⟨_,_,_,rfl,_,X4.rowAll (size_hashA _),?_⟩
  refine (Verify_calls (k:=k4) (kk:=kk) hL.read (by omega) hall' hroot (hkey.mod' M04)).mono ?_
  intro e5 w5 hv5
  obtain ⟨M45,o5,k5,rfl,r5⟩:=hv5.ans
  have M05:=M04.none_trans M45
  have X5:=X4.mod' M45
  refine ⟨_,_,_,_,_,rfl,_,X5.rowAll (size_hashA _),?_⟩
  refine (rVerify_calls (k:=k2) (kk:=kk) (hp.mod' M05) (by omega) hall' hroot (hkey.mod' M05)).mono ?_
  intro e6 w6 hv6
  obtain ⟨M56,o6,k6,rfl,r6⟩:=hv6.ans
  have M06:=M05.none_trans M56
  generalize vAns (verifyR p root key)=a at *
  refine ⟨_,_,_,_,_,rfl,fun _=>⟨_,eq_bool _ _ _,_,rfl,fun _=>?_,fun h=>(by cases h)⟩,fun h=>(h rfl).elim⟩
  refine (hBytes_calls (r5.mod' M56) r6).mono ?_
  rintro _ w7 ⟨rfl,rfl⟩
  refine ⟨_,rfl,fun _=>?_,fun h=>(by simp at h)⟩
  refine (Lists_calls (k:=k4) (k2:=k2) (hL.read.mod' (M45.none_trans M56)) (hp.mod' M06) (by omega)).mono ?_
  rintro _ w8 ⟨rfl,M8⟩
  exact ⟨_,rfl,by rw [decide_eq_true rfl],M06.none_trans M8⟩
end Go.Proofs.YtfghidehlnfdiaaGreat
end
section
namespace Go.Vcg
open Go

theorem mapM_get {α β:Type} {f:α→Option β}:∀{l:List α} {ys:List β},l.mapM f=some ys→ys.length=l.length∧∀(i:Nat) (x:α),l[i]?=some x→∃y,ys[i]?=some y∧f x=some y
 | [],ys,h=>by
   rw [List.mapM_nil] at h
   cases h
   exact ⟨rfl,fun i x hx=>by simp at hx⟩
 | a :: l,ys,h=>by
   rw [List.mapM_cons] at h
   cases ha:f a with
   | none=>simp [ha] at h
   | some b =>
     cases hl:l.mapM f with
     | none=>simp [ha,hl] at h
     | some bs =>
       simp [ha,hl] at h
       subst h
       obtain ⟨h1,h2⟩:=mapM_get hl
       refine ⟨by simp [h1],fun i x hx=>?_⟩
       cases i with
       | zero=>simp at hx; subst hx; exact ⟨b,rfl,ha⟩
       | succ i=>simp at hx; exact h2 i x hx
section
variable {H:Type} {enc:TypeId×Value→H} {P:Program} {W:World} {sp:Nat→Bool} {held:Bool} {base:Nat}

theorem trod_slice2 {fuel:Nat} {t e:TypeId} {v:Value} {d:DataW H} {ps:List MemPlace} (ht:P.underlying t=some (.slice e)) (hce:P.cellsOf e=1)
 (h:DataW.trod enc P W base sp held fuel t [v]=some (d,ps)) :
 ∃o l c,v=.slice o l c∧l≤c∧c≤maxLen∧((l=0∧d=.nil)∨∃elems spare,d=.slice elems spare∧elems.length=l ∧
  ∀i,i < l→∃b f u d' ps' fuel',o=some ⟨b,f,none⟩∧b < W.heap.size∧W.cell? ⟨b,f+i,none⟩=some u∧DataW.trod enc P W base sp held fuel' e [u]=some (d',ps')∧elems[i]?=some d'):=by
 obtain ⟨o,l,c,rfl,hlc,hcm,hall⟩:=trod_slice ht hce h
 refine ⟨o,l,c,rfl,hlc,hcm,?_⟩
 cases fuel with
 | zero=>simp [DataW.trod] at h
 | succ fuel =>
   cases o with
   | none =>
     left
     have:l=0∧c=0:=by
      rcases l with _ | l <;> rcases c with _ | c <;> simp [DataW.trod,ht] at h ⊢
     obtain ⟨rfl,rfl⟩:=this
     simp [DataW.trod,ht] at h
     exact ⟨rfl,h.1.symm⟩
   | some a =>
     right
     simp only [DataW.trod,ht,hce,Nat.mul_one] at h
     split at h
     ·obtain ⟨els,hm,h2⟩:=Option.bind_eq_some_iff.1 h
      obtain ⟨rest,_,h3⟩:=Option.map_eq_some_iff.1 h2
      cases h3
      obtain ⟨hl,hg⟩:=mapM_get hm
      rw [List.length_range] at hl
      refine ⟨_,_,rfl,by simp [hl],fun i hi=>?_⟩
      obtain ⟨b,f,u,d',ps',fuel',ho,hb,hu,hd⟩:=hall i hi
      cases ho
      obtain ⟨y,hy,hfy⟩:=hg i i (by rw [List.getElem?_range hi])
      obtain ⟨vs,hv,hd2⟩:=Option.bind_eq_some_iff.1 hfy
      obtain ⟨u2,rfl,hu2⟩:=cells1_some hv
      rw [add_at,hu] at hu2
      cases hu2
      exact ⟨b,f,u,y.1,y.2,fuel,rfl,hb,hu,hd2,by rw [List.getElem?_map,hy]; rfl⟩
     ·cases h

theorem weights_slice {t e:TypeId} {elems spare:List (DataW H)} {n0:Nat} (ht:P.underlying t=some (.slice e)) (h:((DataW.slice elems spare).weights P t).all (·≤n0)=true) :
 elems.length * P.bytesOf e≤n0∧∀d∈elems,(d.weights P e).all (·≤n0)=true:=by
 simp only [DataW.weights,ht,List.all_cons,Bool.and_eq_true,List.all_append] at h
 refine ⟨?_,fun d hd=>?_⟩
 ·have h1:(elems.length+spare.length) * P.bytesOf e≤n0:=of_decide_eq_true h.1
  exact Nat.le_trans (Nat.mul_le_mul_right _ (Nat.le_add_right _ _)) h1
 ·have h2:=h.2.1
  clear h
  induction elems with
  | nil=>cases hd
  | cons x r ih =>
    simp only [DataW.weightsAll,List.all_append,Bool.and_eq_true] at h2
    rcases List.mem_cons.1 hd with rfl | hd
    ·exact h2.1
    ·exact ih hd h2.2

theorem trod_bytes2 {fuel:Nat} {t e:TypeId} {v:Value} {d:DataW H} {ps:List MemPlace} (ht:P.underlying t=some (.slice e)) (he:P.underlying e=some (.int .u8)) (hce:P.cellsOf e=1)
 (h:DataW.trod enc P W base sp held fuel t [v]=some (d,ps)):∃o c bs,v=.slice o bs.length c∧bs.length≤c∧c≤maxLen∧RdB W o bs∧∀n0,(d.weights P t).all (·≤n0)=true→bs.length * P.bytesOf e≤n0:=by
 obtain ⟨o,c,bs,rfl,h1,h2,h3⟩:=trod_bytes ht he hce h
 refine ⟨o,c,bs,rfl,h1,h2,h3,fun n0 hw=>?_⟩
 obtain ⟨o',l',c',hv,_,_,h4⟩:=trod_slice2 ht hce h
 cases hv
 rcases h4 with ⟨h5,_⟩ | ⟨elems,spare,rfl,h5,_⟩
 ·rw [h5]; simp
 ·rw [← h5]; exact (weights_slice ht hw).1
end
theorem weights_each {H:Type} {P:Program} {n0:Nat}:∀{ts:List TypeId} {ds:List (DataW H)},(DataW.weightsEach P ts ds).all (·≤n0)=true→∀(j:Nat) (t:TypeId) (d:DataW H),ts[j]?=some t→ds[j]?=some d→(d.weights P t).all (·≤n0)=true
 | t0 :: ts,d0 :: ds,h,0,t,d,ht,hd=>by
   simp at ht hd
   subst ht hd
   simp only [DataW.weightsEach,List.all_append,Bool.and_eq_true] at h
   exact h.1
 | t0 :: ts,d0 :: ds,h,j+1,t,d,ht,hd=>by
   simp only [DataW.weightsEach,List.all_append,Bool.and_eq_true] at h
   exact weights_each h.2 j t d (by simpa using ht) (by simpa using hd)
 | [],_,_,_,_,_,ht,_=>by simp at ht
 | _ :: _,[],_,_,_,_,_,hd=>by simp at hd
end Go.Vcg
end
section
namespace Go.Vcg
section
variable {H:Type} {enc:TypeId×Value→H} {P:Program} {W:World} {sp:Nat→Bool} {held:Bool} {base:Nat}
theorem cells_some {a:Addr} {n:Nat} {vs:List Value} (h:W.cells? base a n=some vs):vs.length=n∧∀j u,vs[j]?=some u→W.cell? (a.add j)=some u:=by
 unfold World.cells? at h
 split at h
 ·obtain ⟨hl,hg⟩:=mapM_get h
  rw [List.length_range] at hl
  refine ⟨hl,fun j u hu=>?_⟩
  have hj:j < n:=by rw [← hl]; exact (List.getElem?_eq_some_iff.1 hu).1
  obtain ⟨y,hy,hc⟩:=hg j j (by rw [List.getElem?_range hj])
  rw [hy] at hu
  cases hu
  exact hc
 ·cases h
theorem cell_spot {a:Addr} {u:Value} (h:W.cell? a=some u):a.spot=none∧a.block < W.heap.size:=by
 unfold World.cell? at h
 cases hs:a.spot with
 | none =>
   rw [hs] at h
   refine ⟨rfl,?_⟩
   split at h
   ·rename_i hb; exact (Array.getElem?_eq_some_iff.1 hb).1
   ·cases h
 | some x =>
   rw [hs] at h
   split at h <;> simp at h
theorem trod_slice_el {fuel:Nat} {t e:TypeId} {v:Value} {d:DataW H} {ps:List MemPlace} {n:Nat} (ht:P.underlying t=some (.slice e)) (hce:P.cellsOf e=n) (hn:0 < n)
 (h:DataW.trod enc P W base sp held fuel t [v]=some (d,ps)) :
 ∃o l c,v=.slice o l c∧l≤c∧((l=0∧d=.nil)∨∃elems spare,d=.slice elems spare∧elems.length=l∧∀i,i < l→∃b f us d' ps' fuel',o=some ⟨b,f,none⟩∧b < W.heap.size∧us.length=n∧(∀j u,us[j]?=some u→W.cell? ⟨b,f+i * n+j,none⟩=some u)∧DataW.trod enc P W base sp held fuel' e us=some (d',ps')∧elems[i]?=some d'):=by
 cases fuel with
 | zero=>simp [DataW.trod] at h
 | succ fuel =>
   cases v with
   | slice o l c =>
     cases o with
     | none =>
       have:l=0∧c=0:=by
        rcases l with _ | l <;> rcases c with _ | c <;> simp [DataW.trod,ht] at h ⊢
       obtain ⟨rfl,rfl⟩:=this
       simp [DataW.trod,ht] at h
       exact ⟨none,0,0,rfl,Nat.le_refl _,.inl ⟨rfl,h.1.symm⟩⟩
     | some a =>
       simp only [DataW.trod,ht,hce] at h
       split at h
       ·rename_i hb0
        obtain ⟨els,hm,h2⟩:=Option.bind_eq_some_iff.1 h
        obtain ⟨rest,_,h3⟩:=Option.map_eq_some_iff.1 h2
        cases h3
        obtain ⟨hl,hg⟩:=mapM_get hm
        rw [List.length_range] at hl
        refine ⟨some a,l,c,rfl,hb0.2.1,.inr ⟨_,_,rfl,by simp [hl],fun i hi=>?_⟩⟩
        obtain ⟨y,hy1,hy⟩:=hg i i (by rw [List.getElem?_range hi])
        obtain ⟨vs,hv,hd⟩:=Option.bind_eq_some_iff.1 hy
        obtain ⟨hlv,hgv⟩:=cells_some hv
        obtain ⟨y0,_,hy0⟩:=hg 0 0 (by rw [List.getElem?_range (by omega)])
        obtain ⟨vs0,hv0,_⟩:=Option.bind_eq_some_iff.1 hy0
        obtain ⟨hl0,hg0⟩:=cells_some hv0
        obtain ⟨u,hu⟩:∃u,vs0[0]?=some u:=⟨vs0[0]'(by omega),List.getElem?_eq_getElem (by omega)⟩
        obtain ⟨hs,hb⟩:=cell_spot (hg0 0 u hu)
        obtain ⟨b,f,spot⟩:=a
        have hs':spot=none:=by simpa [Addr.add] using hs
        have hb':b < W.heap.size:=by simpa [Addr.add] using hb
        subst hs'
        refine ⟨b,f,vs,y.1,y.2,fuel,rfl,hb',hlv,fun j u hu=>?_,hd,by rw [List.getElem?_map,hy1]; rfl⟩
        have:=hgv j u hu
        rw [add_at,add_at] at this
        exact this
       ·cases h
   | _=>simp [DataW.trod,ht] at h
theorem trod_parts {fuel:Nat} {t:TypeId} {fs:Array Field} {us:List Value} {d:DataW H} {ps:List MemPlace} (ht:P.underlying t=some (.struct fs)) (h:DataW.trod enc P W base sp held fuel t us=some (d,ps)) :
 us.length=P.cellsOf t∧∃parts,d=.agg parts∧∀(k:Nat) (f:Field),fs[k]?=some f→∃fuel' d' ps',DataW.trod enc P W base sp held fuel' f.type ((us.drop f.offset).take (P.cellsOf f.type))=some (d',ps')∧parts[k]?=some d':=by
 cases fuel with
 | zero=>simp [DataW.trod] at h
 | succ fuel =>
   simp only [DataW.trod,ht] at h
   split at h
   ·rename_i hl
    obtain ⟨xs,hm,he⟩:=Option.map_eq_some_iff.1 h
    cases he
    refine ⟨hl,_,rfl,fun k f hf=>?_⟩
    obtain ⟨_,hg⟩:=mapM_get hm
    obtain ⟨y,hy1,hy⟩:=hg k f (by rw [Array.getElem?_toList]; exact hf)
    exact ⟨fuel,y.1,y.2,hy,by rw [List.getElem?_map,hy1]; rfl⟩
   ·cases h
end
end Go.Vcg
namespace Go.Proofs.YtfghidehlnfdiaaGreat
open Go Go.Vcg Go.Trie
namespace Bulk
theorem one_le {H:Type} (d:DataW H):1≤Rows.uptoBulk d:=by
 cases d with
 | lit l=>cases l <;> simp [Rows.uptoBulk]
 | nil=>simp [Rows.uptoBulk]
 | ptr d=>simp [Rows.uptoBulk]
 | slice elems spare=>simp [Rows.uptoBulk]
 | agg parts=>simp [Rows.uptoBulk]
 | iface t d=>simp [Rows.uptoBulk]
 | map entries=>simp [Rows.uptoBulk]
 | held h=>simp [Rows.uptoBulk]
theorem part_le {H:Type} {d:DataW H} {l:List (DataW H)} (h:d∈l):Rows.uptoBulk d≤Rows.uptoBulkAll l:=by
 induction l with
 | nil=>cases h
 | cons x r ih =>
   simp only [Rows.uptoBulkAll]
   cases List.mem_cons.1 h with
   | inl e=>subst e; omega
   | inr e=>have:=ih e; omega
theorem length_le {H:Type} (l:List (DataW H)):l.length≤Rows.uptoBulkAll l:=by
 induction l with
 | nil=>simp [Rows.uptoBulkAll]
 | cons x r ih=>have:=one_le x; simp only [Rows.uptoBulkAll,List.length_cons]; omega
theorem slice_elems {H:Type} (elems spare:List (DataW H)):Rows.uptoBulkAll elems+1≤Rows.uptoBulk (.slice elems spare):=by
 simp only [Rows.uptoBulk]
 omega
theorem agg_parts {H:Type} (parts:List (DataW H)):Rows.uptoBulkAll parts+1≤Rows.uptoBulk (.agg parts):=by
 simp only [Rows.uptoBulk]
 omega
theorem bound {H:Type} {l:List (DataW H)} (hk:Rows.uptoSmall H l=true):Rows.uptoBulkAll l≤1048576:=of_decide_eq_true hk
end Bulk
section
variable {H:Type} {enc:TypeId×Value→H} {W:World} {sp:Nat→Bool} {held:Bool} {base:Nat}
theorem open_bytesB {fuel:Nat} {v:Value} {d:DataW H} {ps:List MemPlace} (h:DataW.trod enc Tryz.prog W base sp held fuel 23 [v]=some (d,ps)) :
 ∃o c bs,v=.slice o bs.length c∧bs.length≤c∧RdB W o bs∧bs.length≤Rows.uptoBulk d:=by
 obtain ⟨o,c,bs,rfl,h1,h2,h3⟩:=trod_bytes und_slU8 und_u8 (by kernel_rfl) h
 refine ⟨o,c,bs,rfl,h1,h3,?_⟩
 obtain ⟨o',l',c',hv,_,_,h4⟩:=trod_slice2 und_slU8 (by kernel_rfl) h
 cases hv
 rcases h4 with ⟨h5,_⟩ | ⟨elems,spare,rfl,h5,_⟩
 ·rw [h5]; omega
 ·rw [← h5]
  have h6:=Bulk.length_le elems
  have h7:=Bulk.slice_elems elems spare
  omega
theorem open_kvsB {fuel:Nat} {t e:TypeId} {fs:Array Field} {f0 f1:Field} {v:Value} {d:DataW H} {ps:List MemPlace} (ht:Tryz.prog.underlying t=some (.slice e)) (hce:Tryz.prog.cellsOf e=2) (he:Tryz.prog.underlying e=some (.struct fs))
 (h0:fs[0]?=some f0) (h1:fs[1]?=some f1) (t0:f0.type=23) (t1:f1.type=23) (o0:f0.offset=0) (o1:f1.offset=1) (h:DataW.trod enc Tryz.prog W base sp held fuel t [v]=some (d,ps)) :
 ∃o c l,v=.slice o l.length c∧l.length≤c∧StR W o l∧∀x∈l,x.1.length≤Rows.uptoBulk d∧x.2.length≤Rows.uptoBulk d:=by
 obtain ⟨o,l,c,rfl,hlc,h4⟩:=trod_slice_el ht hce (by omega) h
 rcases h4 with ⟨rfl,rfl⟩ | ⟨elems,spare,rfl,h5,h6⟩
 ·exact ⟨o,c,[],rfl,hlc,fun j hj=>absurd hj (by simp),fun x hx=>by cases hx⟩
 ·have hx:∀i,∃x:By×By,i < l→(∃b f ok kk ov kv,o=some ⟨b,f,none⟩∧b < W.heap.size∧W.cell? ⟨b,f+i * 2,none⟩=some (.slice ok x.1.length kk)∧RdB W ok x.1∧W.cell? ⟨b,f+(i * 2+1),none⟩=some (.slice ov x.2.length kv)∧RdB W ov x.2)∧x.1.length≤Rows.uptoBulk (.slice elems spare)∧x.2.length≤Rows.uptoBulk (.slice elems spare):=fun i=>by
   by_cases hi:i < l
   ·obtain ⟨b,f,us,d',ps',fuel',ho,hb,hl,hg,hd,hel⟩:=h6 i hi
    obtain ⟨_,parts,rfl,hf⟩:=trod_parts he hd
    obtain ⟨u0,u1,rfl⟩:∃u0 u1,us=[u0,u1]:=by
     rcases us with _ | ⟨a,_ | ⟨b,_ | ⟨c,r⟩⟩⟩ <;> simp at hl ⊢
    obtain ⟨fa,da,pa,ha,hpa⟩:=hf 0 f0 h0
    obtain ⟨fb,db,pb,hb',hpb⟩:=hf 1 f1 h1
    rw [t0,o0,show Tryz.prog.cellsOf 23=1 from by kernel_rfl] at ha
    rw [t1,o1,show Tryz.prog.cellsOf 23=1 from by kernel_rfl] at hb'
    obtain ⟨ok,kk,key,rfl,_,hrk,hlk⟩:=open_bytesB ha
    obtain ⟨ov,kv,val,rfl,_,hrv,hlv⟩:=open_bytesB hb'
    have p1:=Bulk.part_le (List.mem_of_getElem? hpa)
    have p2:=Bulk.part_le (List.mem_of_getElem? hpb)
    have p3:=Bulk.agg_parts parts
    have p4:=Bulk.part_le (List.mem_of_getElem? hel)
    have p5:=Bulk.slice_elems elems spare
    exact ⟨(key,val),fun _=>⟨⟨b,f,ok,kk,ov,kv,ho,hb,hg 0 _ rfl,hrk,hg 1 _ rfl,hrv⟩,by show key.length≤_; omega,by show val.length≤_; omega⟩⟩
   ·exact ⟨([],[]),fun h=>(hi h).elim⟩
  have hl:((List.range l).map (fun i=>Classical.choose (hx i))).length=l:=by simp
  refine ⟨o,c,(List.range l).map (fun i=>Classical.choose (hx i)),by rw [hl],by rw [hl]; exact hlc,fun j hj=>?_,fun x hxm=>?_⟩
  ·have hjl:j < l:=by rw [← hl]; exact hj
   have:=(Classical.choose_spec (hx j) hjl).1
   simp only [List.getElem_map,List.getElem_range]
   exact this
  ·obtain ⟨i,hi,rfl⟩:=List.mem_map.1 hxm
   exact (Classical.choose_spec (hx i) (List.mem_range.1 hi)).2
end
end Go.Proofs.YtfghidehlnfdiaaGreat
end
section
namespace Go.Proofs.YtfghidehlnfdiaaGreat
open Go Go.Vcg Go.Trie
structure FewOk (l:List (By×By)):Prop where
 len:l.length≤40
 keys:∀e∈l,e.1.length≤64
 vals:∀e∈l,e.2≠[]∧e.2.length≤300
 srt:SortedM l
theorem sorted_snoc {l:List (By×By)} {j:Nat} (hj:j < l.length) (h:SortedM (l.take j)) (hl:0 < j→∃h1:j - 1 < l.length,ltB l[j - 1].1 l[j].1):SortedM (l.take (j+1)):=by
 rw [List.take_succ_eq_append_getElem hj]
 refine List.pairwise_append.2 ⟨h,List.pairwise_singleton _ _,fun x hx y hy=>?_⟩
 obtain rfl:=List.mem_singleton.1 hy
 obtain ⟨q,hq,rfl⟩:=List.getElem_of_mem hx
 rw [List.length_take] at hq
 obtain ⟨h1,h2⟩:=hl (by omega)
 rw [List.getElem_take]
 by_cases he:q=j - 1
 ·subst he; exact h2
 ·have hp:=List.pairwise_iff_getElem.1 h q (j - 1) (by rw [List.length_take]; omega) (by rw [List.length_take]; omega) (by omega)
  rw [List.getElem_take,List.getElem_take] at hp
  exact ltB_trans hp h2
theorem few16_calls {w:World} {o:Option Addr} {k:Nat} {l:List (By×By)} (h:StR w o l) :
 Calls Tryz.prog morainelaw16_few.n #[.slice o l.length k] w (fun e w'=>∃b:Bool,e=.returned (.bool b)∧(b=true→FewOk l)∧Vcg.Mod NoB w w'):=by
 refine morainelaw16_few.vc _ _ _ _ _ ?_
 unfold morainelaw16_few.Vc
 refine ⟨fun _=>⟨false,rfl,fun h=>(by cases h),Mod.refl w⟩,fun hl=>?_⟩
 have no:∀w',Vcg.Mod NoB w w'→∃b:Bool,Ending.returned (.bool false)=.returned (.bool b)∧(b=true→FewOk l)∧Vcg.Mod NoB w w':=fun w' M=>⟨false,rfl,fun h=>(by cases h),M⟩
 refine ⟨fun i w'=>∃j:Nat,i=(j:Int)∧j≤l.length∧Vcg.Mod NoB w w'∧SortedM (l.take j)∧∀q (hq:q < l.length),q < j→l[q].1.length≤64∧l[q].2≠[]∧l[q].2.length≤300,fun i _=>((l.length:Int) - i).toNat,⟨0,rfl,Nat.zero_le _,Mod.refl w,by rw [List.take_zero]; exact List.Pairwise.nil,fun q hq h=>by omega⟩,?_⟩
 rintro _ _ w1 ⟨j,rfl,hj,M,hs,hall⟩
 refine ⟨fun hlt=>?_,fun hge=>?_⟩
 ·rintro _ rfl
  have hjl:j < l.length:=by omega
  have M2:=M.step_drew
  generalize w1.drew=w2 at *
  obtain ⟨b,f,ok,kk,ov,kv,rfl,e2,e3,e4,e5,e6⟩:=h.mod' M2 j hjl
  have ck:w2.cell? (Addr.add ⟨b,f,none⟩ (Int.toNat (j:Int) * 2))=some (.slice ok l[j].1.length kk):=by rw [add_at,Int.toNat_natCast]; exact e3
  have cv:w2.cell? (Addr.add (Addr.add ⟨b,f,none⟩ (Int.toNat (j:Int) * 2)) 1)=some (.slice ov l[j].2.length kv):=by rw [add_at,add_at,Int.toNat_natCast,Nat.add_assoc]; exact e5
  refine ⟨_,rfl,⟨by omega,by omega⟩,_,_,_,ck,fun _=>no _ M2,fun h1=>⟨_,rfl,⟨by omega,by omega⟩,_,_,_,cv,fun _=>no _ M2,fun h2=>⟨_,rfl,⟨by omega,by omega⟩,_,_,_,cv,fun _=>no _ M2,fun h3=>?_⟩⟩⟩
  have ew:IntKind.wrap .i64 ((j:Int)+1)=((j+1:Nat):Int):=by rw [wrap_i64_small (by omega) (by omega)]; omega
  have hv:l[j].2≠[]:=by intro e; rw [e] at h2; simp at h2
  have hall':∀q (hq:q < l.length),q < j+1→l[q].1.length≤64∧l[q].2≠[]∧l[q].2.length≤300:=fun q hq hqj=>by
   by_cases hqe:q=j
   ·subst hqe; exact ⟨by omega,hv,by omega⟩
   ·exact hall q hq (by omega)
  refine ⟨fun hpos=>?_,fun hz=>?_⟩
  ·have ew1:IntKind.wrap .i64 ((j:Int) - 1)=((j - 1:Nat):Int):=by rw [wrap_i64_small (by omega) (by omega)]; omega
   obtain ⟨b',f',ok',kk',ov',kv',hb',g2,g3,g4,g5,g6⟩:=h.mod' M2 (j - 1) (by omega)
   cases hb'
   refine ⟨_,rfl,by rw [ew1]; exact ⟨by omega,by omega⟩,_,_,_,by rw [add_at,ew1,Int.toNat_natCast]; exact g3,_,rfl,⟨by omega,by omega⟩,_,_,_,ck,?_⟩
   have hkl:=(hall (j - 1) (by omega) (by omega)).1
   refine (cmp_calls g4 e4 (by omega)).mono ?_
   rintro _ w3 ⟨rfl,M3⟩
   have M23:=M2.none_trans M3
   refine ⟨_,rfl,fun _=>no _ M23,fun hneg=>?_⟩
   rw [ew]
   exact ⟨⟨j+1,rfl,hjl,M23,sorted_snoc hjl hs (fun _=>⟨by omega,cmpB_lt.1 (by omega)⟩),hall'⟩,by dsimp only; omega⟩
  ·rw [ew]
   exact ⟨⟨j+1,rfl,hjl,M2,sorted_snoc hjl hs (fun h=>by omega),hall'⟩,by dsimp only; omega⟩
 ·obtain rfl:j=l.length:=by omega
  rw [List.take_of_length_le (Nat.le_refl _)] at hs
  refine ⟨true,rfl,fun _=>⟨by omega,fun e he=>?_,fun e he=>?_,hs⟩,M⟩
  ·obtain ⟨q,hq,rfl⟩:=List.getElem_of_mem he
   exact (hall q hq hq).1
  ·obtain ⟨q,hq,rfl⟩:=List.getElem_of_mem he
   exact (hall q hq hq).2
section
variable {w w':World} {lab:Nat→Nat} {c:Nat}
end
end Go.Proofs.YtfghidehlnfdiaaGreat
end
section
namespace Go.Proofs.YtfghidehlnfdiaaGreat
open Go Go.Vcg Go.Trie
theorem StR.kv {w:World} {o:Option Addr} {m:List (By×By)} (h:StR w o m):KvRow w (fun _=>0) 0 o m:=fun j hj=>by
 obtain ⟨b,f,ok,kk,ov,kv,e1,e2,e3,e4,e5,e6⟩:=h j hj
 exact ⟨b,f,ok,kk,ov,kv,e1,e2,rfl,e3,⟨e4,fun _ _ _=>rfl⟩,e5,⟨e6,fun _ _ _=>rfl⟩⟩
theorem FewOk.kv {m:List (By×By)} (h:FewOk m):KvOk m:=⟨by have:=h.len; omega,h.keys,fun e he=>by have:=(h.vals e he).2; omega⟩
theorem FewOk.trie {m:List (By×By)} (h:FewOk m):∃n,Rep (pathsOf m) n∧Canon n∧Small n∧cnt n≤160:=by
 obtain ⟨n,h1,h2,h3,h4⟩:=trie_of m h.srt h.keys (fun e he=>⟨(h.vals e he).1,by have:=(h.vals e he).2; omega⟩)
 have:=h.len
 exact ⟨n,h1,h2,small_of h2 h3,by omega⟩
end Go.Proofs.YtfghidehlnfdiaaGreat
end
section
namespace Go.Proofs.YtfghidehlnfdiaaGreat
open Go Go.Vcg Go.Trie
theorem open_kvs {H:Type} {enc:TypeId×Value→H} {W:World} {sp:Nat→Bool} {held:Bool} {base:Nat} {fuel:Nat} {v:Value} {d:DataW H} {ps:List MemPlace} (h:DataW.trod enc Tryz.prog W base sp held fuel 22 [v]=some (d,ps)) :
 ∃o c l,v=.slice o l.length c∧l.length≤c∧StR W o l:=by
 obtain ⟨o,c,l,h1,h2,h3,_⟩:=open_kvsB und_slKv (by kernel_rfl) Tryz.underlying53 rfl rfl rfl rfl rfl rfl h
 exact ⟨o,c,l,h1,h2,h3⟩
end Go.Proofs.YtfghidehlnfdiaaGreat
end
section
namespace Go.Proofs.YtfghidehlnfdiaaGreat
open Go Go.Vcg
abbrev morainelaw16_ProofTurned.n:Nat:=3
def morainelaw16_ProofTurned.Vc (o0:Option Addr) (l0 c0:Nat) (o1:Option Addr) (l1 c1:Nat) (n2 n3 n4:Int) (o5:Option Addr) (l5 c5:Nat) (w:World) (R:Ending→World→Prop):Prop :=
 Calls Tryz.prog 6 #[] w (fun e6 w7 =>
 ∃b8,e6=.returned (.bool b8) ∧
 (((b8=false →
 R (.returned (.bool false)) w7)) ∧
 ((b8=true →
 Calls Tryz.prog 7 #[(.slice o0 l0 c0)] w7 (fun e9 w10 =>
 ∃b11,e9=.returned (.bool b11) ∧
 (((b11=false →
 R (.returned (.bool true)) w10)) ∧
 ((b11=true →
 (((((l5:Nat):Int) > 300 →
 R (.returned (.bool true)) w10)) ∧
 ((¬((l5:Nat):Int) > 300 →
 Calls Tryz.prog 8 #[(.slice o0 l0 c0)] w10 (fun e12 w13 =>
 ∃L14 o15 l16 l17,e12=.returned (.tuple #[(.agg L14),(.slice o15 l16 l17)]) ∧
 ∀d18 w19,IsNew w13 27 (Array.replicate 32 (.int .u8 0)) d18 w19 →
 ∃w20,Sem.run Tryz.prog (Instr.storeAt 27 (.pointer (some d18)) (.agg L14)) w19=.ok () w20 ∧
 ∀w21,IsDrew w20 w21 →
 ∃L22,RowAt w21 d18 32 L22 ∧
 Calls Tryz.prog 10 #[(.slice o15 l16 l17)] w21 (fun e23 w24 =>
 ∃o25 l26 l27,e23=.returned (.slice o25 l26 l27) ∧
 RowAt w24 d18 32 L22 ∧
 Calls Tryz.prog 9 #[(.slice o25 l26 l27),(.agg L22),(.slice o1 l1 c1)] w24 (fun e28 w29 =>
 ∃o30 l31 l32 n33,e28=.returned (.tuple #[(.slice o30 l31 l32),(.int .i64 n33)]) ∧
 (((n33≠0 →
 R (.returned (.bool true)) w29)) ∧
 ((n33=0 →
 ∃(J34:Option Addr→Nat→Nat→World→Prop),(∃(J35:Bool→World→Prop),((((n2≥0 →
 J35 (decide (n2 < ((l31:Nat):Int))) w29)) ∧
 ((¬n2≥0 →
 J35 false w29)))) ∧
 (∀(b36:Bool) (j37:Nat→Value) (w37:World),J35 b36 w37 →
 (((b36=true →
 Calls Tryz.prog 11 #[(.slice o30 l31 l32)] w37 (fun e38 w39 =>
 ∃o40 l41 l42,e38=.returned (.slice o40 l41 l42) ∧
 ∃(J43:Bool→World→Prop),((((n3≥0 →
 ∃d44,o40=some d44 ∧
 ((0:Int)≤n2∧n2 < ((l41:Nat):Int)) ∧
 ∃o45 l46 l47,World.cell? w39 (Addr.add d44 (Int.toNat n2))=some (.slice o45 l46 l47) ∧
 J43 (decide (n3 < ((l46:Nat):Int))) w39)) ∧
 ((¬n3≥0 →
 J43 false w39)))) ∧
 (∀(b48:Bool) (j49:Nat→Value) (w49:World),J43 b48 w49 →
 (((b48=true →
 ∀w50,IsDrew w49 w50 →
 ∃d51,o40=some d51 ∧
 ((0:Int)≤n2∧n2 < ((l41:Nat):Int)) ∧
 ∃o52 l53 l54,World.cell? w50 (Addr.add d51 (Int.toNat n2))=some (.slice o52 l53 l54) ∧
 ∃d55,o40=some d55 ∧
 ((0:Int)≤n2∧n2 < ((l41:Nat):Int)) ∧
 ∃o56 l57 l58,World.cell? w50 (Addr.add d55 (Int.toNat n2))=some (.slice o56 l57 l58) ∧
 ∃d59,o56=some d59 ∧
 ((0:Int)≤n3∧n3 < ((l57:Nat):Int)) ∧
 ∃n60,World.cell? w50 (Addr.add d59 (Int.toNat n3))=some (.int .u8 n60) ∧
 ∃d61,o52=some d61 ∧
 ((0:Int)≤n3∧n3 < ((l53:Nat):Int)) ∧
 CanSet w50 (Addr.add d61 (Int.toNat n3)) (.int .u8 (bitsI .xor .u8 n60 n4))∧∀w62,IsSet w50 (Addr.add d61 (Int.toNat n3)) (.int .u8 (bitsI .xor .u8 n60 n4)) w62 →
 J34 o40 l41 l42 w62)) ∧
 ((b48=false →
 ∀w63,IsDrew w49 w63 →
 ∃v64,Sem.run Tryz.prog (Instr.sliceAt 31 (.slice o40 l41 l42) none (some (.int .i64 n2)) (some (.int .i64 n2))) w63=.ok v64 w63 ∧
 ∃o65 l66 l67,v64=(.slice o65 l66 l67) ∧
 ((0:Int)≤(IntKind.wrap .i64 (n2+1))∧(IntKind.wrap .i64 (n2+1))≤((l41:Nat):Int)) ∧
 ∃v68 w69,Sem.run Tryz.prog (builtinV .append #[31,31] 31 #[(.slice o65 l66 l67),(.slice (subO o40 l42 (Int.toNat (IntKind.wrap .i64 (n2+1))) 1) (l41 - (Int.toNat (IntKind.wrap .i64 (n2+1)))) (l42 - (Int.toNat (IntKind.wrap .i64 (n2+1)))))]) w63=.ok v68 w69 ∧
 ∃o70 l71 l72,v68=(.slice o70 l71 l72) ∧
 J34 o70 l71 l72 w69))))))) ∧
 ((b36=false →
 J34 o30 l31 l32 w37))))) ∧
 (∀(o73:Option Addr) (l73:Nat) (c73:Nat) (j74:Nat→Value) (w74:World),J34 o73 l73 c73 w74 →
 (((((l5:Nat):Int) > 0 →
 ∃v75,Sem.run Tryz.prog (Instr.sliceAt 31 (.slice o73 l73 c73) none (some (.int .i64 ((l73:Nat):Int))) (some (.int .i64 ((l73:Nat):Int)))) w74=.ok v75 w74 ∧
 ∃o76 l77 l78,v75=(.slice o76 l77 l78) ∧
 ∀d79 w80,IsNew w74 23 #[(.slice o5 l5 c5)] d79 w80 →
 ∃v81 w82,Sem.run Tryz.prog (builtinV .append #[31,31] 31 #[(.slice o76 l77 l78),(.slice (some d79) 1 1)]) w80=.ok v81 w82 ∧
 ∃o83 l84 l85,v81=(.slice o83 l84 l85) ∧
 ∃L86,RowAt w82 d18 32 L86 ∧
 Calls Tryz.prog 12 #[(.agg L86),(.slice o1 l1 c1),(.slice o83 l84 l85)] w82 (fun e87 w88 =>
 ∃b89,e87=.returned (.bool b89) ∧
 R (.returned (.bool b89)) w88))) ∧
 ((¬((l5:Nat):Int) > 0 →
 ∃L90,RowAt w74 d18 32 L90 ∧
 Calls Tryz.prog 12 #[(.agg L90),(.slice o1 l1 c1),(.slice o73 l73 c73)] w74 (fun e91 w92 =>
 ∃b93,e91=.returned (.bool b93) ∧
 R (.returned (.bool b93)) w92))))))))))))))))))))))
theorem morainelaw16_ProofTurned.vc (o0:Option Addr) (l0:Nat) (c0:Nat) (o1:Option Addr) (l1:Nat) (c1:Nat) (n2:Int) (n3:Int) (n4:Int) (o5:Option Addr) (l5:Nat) (c5:Nat) (w:World) (R:Ending→World→Prop) (h:morainelaw16_ProofTurned.Vc o0 l0 c0 o1 l1 c1 n2 n3 n4 o5 l5 c5 w R):Calls Tryz.prog 3 #[(.slice o0 l0 c0),(.slice o1 l1 c1),(.int .i64 n2),(.int .i64 n3),(.int .u8 n4),(.slice o5 l5 c5)] w R :=
 execF_sound (R:=⟨R,false⟩) (ann:=[(1000014,[(15,.cell (.slice))]),(1000010,[(49,.cell (.bool))]),(1000012,[(62,.cell (.bool))])]) (args:=[.slice o0 l0 c0,.slice o1 l1 c1,.int .i64 n2,.int .i64 n3,.int .u8 n4,.slice o5 l5 c5]) Tryz.func3 mixed (Eq.mp (by kernel_rfl:morainelaw16_ProofTurned.Vc o0 l0 c0 o1 l1 c1 n2 n3 n4 o5 l5 c5 w R=execF (pA Tryz.prog ⟨R,false⟩) Tryz.prog [(1000014,[(15,.cell (.slice))]),(1000010,[(49,.cell (.bool))]),(1000012,[(62,.cell (.bool))])] Tryz.f3 [.slice o0 l0 c0,.slice o1 l1 c1,.int .i64 n2,.int .i64 n3,.int .u8 n4,.slice o5 l5 c5] w) h)

end Go.Proofs.YtfghidehlnfdiaaGreat
end
section
namespace Go.Proofs.YtfghidehlnfdiaaGreat
open Go Go.Vcg Go.Trie
theorem findN_mem:∀{l:List (By×By)} {h b:By},findN l h=some b→(h,b)∈l
 | [],h,b,e=>by simp [findN] at e
 | x :: r,h,b,e=>by
   simp only [findN] at e
   split at e
   ·rename_i hx
    cases e
    rw [← hx]
    exact List.mem_cons_self
   ·exact List.mem_cons_of_mem _ (findN_mem e)
theorem way_out {l:List (By×By)}:∀(k:Nat) (path:By),path.length≤k→(∀n∈path,n.toNat < 16) →
 (∀s xs,Good (.l xs)→∃r,(nodeW (way (pStep l)) s xs path).1=s++r∧r.length≤path.length∧∀b∈r,∃h,(h,b)∈l)∧(∀s x,Good x→∃r,(way (pStep l) s x path).1=s++r∧r.length≤path.length+1∧∀b∈r,∃h,(h,b)∈l)
 | k,path,hk,hn=>by
   have none:∀s:List By,∃r:List By,s=s++r∧r.length≤path.length∧∀b∈r,∃h,(h,b)∈l:=fun s=>⟨[],by simp,Nat.zero_le _,fun b hb=>by cases hb⟩
   have none1:∀s:List By,∃r:List By,s=s++r∧r.length≤path.length+1∧∀b∈r,∃h,(h,b)∈l:=fun s=>⟨[],by simp,Nat.zero_le _,fun b hb=>by cases hb⟩
   have hnode:∀s xs,Good (.l xs)→∃r,(nodeW (way (pStep l)) s xs path).1=s++r∧r.length≤path.length∧∀b∈r,∃h,(h,b)∈l:=by
    intro s xs hg
    by_cases hx:xs.length=2
    ·obtain ⟨p,lf,he,hv,hp⟩:=hg.two hx
     cases lf with
     | true=>rw [node_leaf hx he]; exact none s
     | false =>
       obtain ⟨hpn,hgy,_⟩:=hp rfl
       rw [node_row hx he]
       by_cases hpre:p.isPrefixOf path=true
       ·rw [if_pos hpre]
        have hpl:0 < p.length:=List.length_pos_iff.2 hpn
        have hle:p.length≤path.length:=(List.isPrefixOf_iff_prefix.1 hpre).length_le
        obtain ⟨k',rfl⟩:∃k',k=k'+1:=⟨k - 1,by omega⟩
        obtain ⟨r,e1,e2,e3⟩:=(way_out k' (path.drop p.length) (by rw [List.length_drop]; omega) (fun n hm=>hn n (List.mem_of_mem_drop hm))).2 s _ hgy
        rw [List.length_drop] at e2
        exact ⟨r,e1,by omega,e3⟩
       ·rw [if_neg hpre]; exact none s
    ·obtain ⟨_,_,hkid⟩:=hg.many hx
     cases path with
     | nil=>rw [node_end hx]; exact none s
     | cons n r =>
       rw [node_kid hx]
       obtain ⟨k',rfl⟩:∃k',k=k'+1:=⟨k - 1,by simp only [List.length_cons] at hk; omega⟩
       obtain ⟨r2,e1,e2,e3⟩:=(way_out k' r (by simp only [List.length_cons] at hk; omega) (fun m hm=>hn m (List.mem_cons_of_mem _ hm))).2 s _ (hkid n.toNat (hn n List.mem_cons_self))
       exact ⟨r2,e1,by simp only [List.length_cons]; omega,e3⟩
   refine ⟨hnode,fun s x hg=>?_⟩
   cases x with
   | s b =>
     by_cases hb:b=[]
     ·subst hb; rw [way_nil]; exact none1 s
     ·cases hf:findN l b with
      | none=>rw [way_bad hb (show pStep l s b=(s,.error 160) by unfold pStep; rw [hf])]; exact none1 s
      | some c =>
        have hst:pStep l s b=(s++[c],.ok c):=by unfold pStep; rw [hf]
        by_cases hc:checkOf c=0
        ·obtain ⟨xs,hd,_,hgx⟩:=check_node hc
         rw [way_hash hb hst hc hd hgx hn]
         obtain ⟨r,e1,e2,e3⟩:=hnode (s++[c]) xs hgx
         refine ⟨[c]++r,by rw [e1,List.append_assoc],by simp; omega,fun x hx=>?_⟩
         rcases List.mem_append.1 hx with hx | hx
         ·obtain rfl:=List.mem_singleton.1 hx
          exact ⟨_,findN_mem hf⟩
         ·exact e3 x hx
        ·rw [way_form hb hst hc]
         exact ⟨[c],rfl,by simp,fun x hx=>by
          obtain rfl:=List.mem_singleton.1 hx
          exact ⟨_,findN_mem hf⟩⟩
   | l xs =>
     rw [way_list hg hn]
     obtain ⟨r,e1,e2,e3⟩:=hnode s xs hg
     exact ⟨r,e1,by omega,e3⟩
theorem proveR_out {l:List (By×By)} {root key:By} {p:List By} (h:proveR l root key=.ok p) (h32:root.length=32):p.length≤129∧∀b∈p,∃h,(h,b)∈l:=by
 by_cases h1:l.length > 4096
 ·unfold proveR at h; rw [if_pos h1] at h; cases h
 ·by_cases h2:key.length > 64
  ·unfold proveR at h; rw [if_neg h1,if_pos h2] at h; cases h
  ·rw [proveR_way h1 h2] at h
   have hnl:=nibbles_len key
   obtain ⟨r,e1,e2,e3⟩:=(way_out (l:=l) _ (nibbles key) (Nat.le_refl _) (nib_lt key)).2 [] _ (good_root h32)
   cases hw:way (pStep l) [] (rootIt root) (nibbles key) with
   | mk out res =>
     rw [hw] at h e1
     simp only [List.nil_append] at e1
     cases res with
     | error er=>cases h
     | ok v =>
       cases h
       rw [e1]
       exact ⟨by omega,e3⟩
def LsR (w:World) (o:Option Addr) (ls:List By):Prop:=∃vs,CRow w (fun _=>(0:Nat)) 0 o vs∧LsCells w (fun _=>0) 0 vs ls
section
variable {w w':World} {o:Option Addr} {ls:List By}
theorem LsR.rd (h:LsR w o ls):RdLs w (fun _=>0) 0 ls o:=fun j hj=>by
 obtain ⟨vs,h1,h2⟩:=h
 obtain ⟨ob,kb,e1,e2,e3⟩:=h2.2 j hj
 obtain ⟨g,f,ho,hg,hl,hc⟩:=h1 _ _ e1
 exact ⟨g,f,ob,kb,ho,hg,hl,hc,e2,e3⟩
theorem LsCells.re0 {lab:Nat→Nat} {cb:Nat} {vs:List Value} (h:LsCells w lab cb vs ls):LsCells w (fun _=>0) 0 vs ls :=
 ⟨h.1,fun j hj=>by obtain ⟨ob,kb,e1,e2,e3⟩:=h.2 j hj; exact ⟨ob,kb,e1,CBy.re e2 (fun _ _ _=>rfl),e3⟩⟩
theorem LsR.mod' (h:LsR w o ls) (M:Vcg.Mod NoB w w'):LsR w' o ls:=by
 obtain ⟨vs,h1,h2⟩:=h
 exact ⟨vs,CRow.re (h1.stp (S:=NoS) (Stp.of_nob M 0) (fun h=>h)) (fun _ _ _=>rfl),(h2.stp (S:=NoS) (Stp.of_nob M 0) (fun h=>h)).re0⟩
theorem LsOwn.rows {lab:Nat→Nat} {c cb n k:Nat} (h:LsOwn w lab c cb ls o n k):LsR w o ls:=by
 obtain ⟨_,vs,h1,h2⟩:=h
 exact ⟨vs,CRow.re (COw.row h1) (fun _ _ _=>rfl),h2.re0⟩
theorem LsC.rows {lab:Nat→Nat} {n k:Nat} (h:LsC w lab ls o n k):LsR w o ls:=by
 obtain ⟨_,vs,h1,h2,h3⟩:=h
 refine ⟨vs,CRow.re (COw.row h1) (fun _ _ _=>rfl),h2,fun j hj=>?_⟩
 obtain ⟨ob,kb,e1,e2⟩:=h3 j hj
 exact ⟨ob,kb,e1,⟨e2.own.bytes,fun _ _ _=>rfl⟩,e2.own.cap.1⟩
theorem LsCells.take {vs:List Value} {lab:Nat→Nat} {cb:Nat} (h:LsCells w lab cb vs ls) {n:Nat} (hn:n≤ls.length):LsCells w lab cb (vs.take n) (ls.take n):=by
 refine ⟨by rw [List.length_take,List.length_take,h.1],fun j hj=>?_⟩
 rw [List.length_take] at hj
 obtain ⟨ob,kb,a,b,e⟩:=h.2 j (by omega)
 rw [List.getElem_take]
 exact ⟨ob,kb,by rw [List.getElem?_take,if_pos (by omega)]; exact a,b,e⟩
theorem LsCells.drop {vs:List Value} {lab:Nat→Nat} {cb:Nat} (h:LsCells w lab cb vs ls) (n:Nat):LsCells w lab cb (vs.drop n) (ls.drop n):=by
 refine ⟨by rw [List.length_drop,List.length_drop,h.1],fun j hj=>?_⟩
 rw [List.length_drop] at hj
 obtain ⟨ob,kb,a,b,e⟩:=h.2 (n+j) (by omega)
 rw [List.getElem_drop]
 exact ⟨ob,kb,by rw [List.getElem?_drop]; exact a,b,e⟩
theorem LsCells.append {vs us:List Value} {ms:List By} {lab:Nat→Nat} {cb:Nat} (h:LsCells w lab cb vs ls) (k:LsCells w lab cb us ms):LsCells w lab cb (vs++us) (ls++ms):=by
 have h1:=h.1
 have k1:=k.1
 refine ⟨by rw [List.length_append,List.length_append,h1,k1],fun j hj=>?_⟩
 rw [List.length_append] at hj
 by_cases hl:j < ls.length
 ·rw [List.getElem_append_left hl,List.getElem?_append_left (by omega)]
  exact h.2 j hl
 ·rw [List.getElem_append_right (by omega),List.getElem?_append_right (by omega),h1]
  exact k.2 (j - ls.length) (by omega)
theorem LsCells.one {vs:List Value} {lab:Nat→Nat} {cb:Nat} (h:LsCells w lab cb vs ls):∀u∈vs,u.oneCell'=true:=fun u hu=>by
 obtain ⟨q,hq,rfl⟩:=List.getElem_of_mem hu
 obtain ⟨ob,kb,a,_⟩:=h.2 q (by rw [← h.1]; exact hq)
 rw [List.getElem?_eq_getElem hq] at a
 rw [Option.some.inj a]; rfl
theorem append_zeroL {g f l c:Nat} {x:Value} (src:Src Tryz.prog 1 tSlSl x 0 [] w) (hl:l≤c) :
 Sem.run Tryz.prog (builtinV .append #[tSlSl,tSlSl] tSlSl #[.slice (some ⟨g,f,none⟩) l c,x]) w=.ok (.slice (some ⟨g,f,none⟩) l c) w:=by
 obtain ⟨i,hi,hz,hs,hb⟩:=info_of info_slU8
 exact run_append_room_src (P:=Tryz.prog) w tSlSl tSlSl tSlSl tSlU8 i und_slSl hi g f l c x 0 [] (hs ▸ src) (by omega) (fun j hj=>by simp at hj) (fun j hj=>by simp at hj)
theorem cut_ls {k at_:Nat} (h:LsR w o ls) (ha:at_ < ls.length) (hk:ls.length≤k) (hl:ls.length≤2 ^ 20) :
 ∃o' k' w',Sem.run Tryz.prog (builtinV .append #[tSlSl,tSlSl] tSlSl #[.slice o at_ at_,.slice (subO o k (at_+1) 1) (ls.length - (at_+1)) (k - (at_+1))]) w=.ok (.slice o' (ls.take at_++ls.drop (at_+1)).length k') w'∧(ls.take at_++ls.drop (at_+1)).length≤k'∧Vcg.Mod NoB w w'∧LsR w' o' (ls.take at_++ls.drop (at_+1)):=by
 obtain ⟨vs,C,N⟩:=h
 have hvl:=N.1
 obtain ⟨i,hi,hz,hs,hbt⟩:=info_of info_slU8
 have T1:=CRow.take C at_
 have T2:=CRow.drop C (cap:=k) (n:=at_+1) (sz:=1) (by omega)
 rw [Nat.mul_one] at T2
 have K1:=N.take (n:=at_) (by omega)
 have K2:=N.drop (at_+1)
 have hl1:(ls.take at_++ls.drop (at_+1)).length=at_+(ls.length - (at_+1)):=by rw [List.length_append,List.length_take,List.length_drop]; omega
 have src2:Src Tryz.prog 1 tSlSl (.slice (subO o k (at_+1) 1) (ls.length - (at_+1)) (k - (at_+1))) (ls.length - (at_+1)) (vs.drop (at_+1)) w:=CRow.src T2 und_slSl (by rw [List.length_drop,hvl]; omega) K2.one _ (by omega)
 rcases Nat.eq_zero_or_pos (ls.length - (at_+1)) with hq | hq
 ·have hd:vs.drop (at_+1)=[]:=List.drop_eq_nil_of_le (by omega)
  have hdl:ls.drop (at_+1)=[]:=List.drop_eq_nil_of_le (by omega)
  rw [hd,hq] at src2
  rw [hq,hl1,hq]
  obtain ⟨b,f,ho,_⟩:=C 0 (vs[0]'(by omega)) (List.getElem?_eq_getElem _)
  subst ho
  refine ⟨some ⟨b,f,none⟩,at_,w,append_zeroL src2 (Nat.le_refl _),Nat.le_refl _,Mod.refl w,?_⟩
  rw [hdl,List.append_nil]
  exact ⟨_,T1,K1⟩
 ·obtain ⟨q,hq2⟩:∃q,ls.length - (at_+1)=q+1:=⟨ls.length - (at_+1) - 1,by omega⟩
  rw [hq2] at src2 hl1 ⊢
  obtain ⟨o',c',w6,hr,F⟩:=append_full (tx:=tSlSl) (ty:=tSlSl) T1 und_slSl hi hz hs (by rfl) (by decide) (l:=at_) (by rw [List.length_take,hvl]; omega) src2 (by simp only [maxLen]; omega) (by rw [hbt]; omega)
  refine ⟨o',c',w6,by rw [hl1]; exact hr,by rw [hl1]; exact F.own.cap.1,F.mod,_,CRow.re (F.done (lab:=fun _=>(0:Nat)) 0).1.row (fun _ _ _=>rfl),?_⟩
  have s6:Stp NoS w (fun _=>(0:Nat)) w6 _:=Stp.of_nob F.mod 0
  exact (LsCells.append (K1.stp s6 (fun h=>h)) (K2.stp s6 (fun h=>h))).re0
theorem more_ls {D:Nat} {b:By} {ob:Option Addr} {kb:Nat} (h:LsR w o ls) (B:Blk w D tSlU8 #[.slice ob b.length kb]) (hb:RdB w ob b) (hk:b.length≤kb) (hl:ls.length≤2 ^ 20) :
 ∃o' k' w',Sem.run Tryz.prog (builtinV .append #[tSlSl,tSlSl] tSlSl #[.slice o ls.length ls.length,.slice (some ⟨D,0,none⟩) 1 1]) w=.ok (.slice o' (ls++[b]).length k') w'∧Vcg.Mod NoB w w'∧LsR w' o' (ls++[b]):=by
 obtain ⟨vs,C,N⟩:=h
 obtain ⟨i,hi,hz,hs,hbt⟩:=info_of info_slU8
 obtain ⟨o',c',w6,hr,F⟩:=append_full (tx:=tSlSl) (ty:=tSlSl) (m:=0) C und_slSl hi hz hs (by rfl) (by decide) (l:=ls.length) (by rw [N.1,Nat.mul_one]) (src_one und_slSl B rfl (by simp [Value.oneCell'])) (by simp only [maxLen]; omega) (by rw [hbt]; omega)
 refine ⟨o',c',w6,by rw [List.length_append,List.length_singleton]; exact hr,F.mod,_,CRow.re (F.done (lab:=fun _=>(0:Nat)) 0).1.row (fun _ _ _=>rfl),?_⟩
 have s6:Stp NoS w (fun _=>(0:Nat)) w6 _:=Stp.of_nob F.mod 0
 exact ((N.push ⟨hb,fun _ _ _=>rfl⟩ hk).stp s6 (fun h=>h)).re0
theorem LsC.write {L:Nat→Nat} {n k at_ place:Nat} {x:UInt8} (h:LsC w L ls o n k) (ha:at_ < ls.length) (hp:place < ls[at_].length) :
 ∃g kb G,(∀w',Vcg.Mod NoB w w'→(∃d,o=some d∧w'.cell? (d.add at_)=some (.slice (some ⟨g,0,none⟩) ls[at_].length kb))∧w'.cell? ⟨g,place,none⟩=some (bV ls[at_][place])∧CanSet w' ⟨g,place,none⟩ (bV x)∧LsR (w'.setCell ⟨g,place,none⟩ (bV x)) o (ls.set at_ (ls[at_].set place x)))∧L g=10+at_∧G=g:=by
 obtain ⟨rfl,vs,h1,h2,h3⟩:=h
 obtain ⟨ob,kb,e1,e2⟩:=h3 at_ ha
 obtain ⟨G,hG,hcell⟩:=h1.own.cell e1
 rcases e2.own.2 with ⟨_,h0,_⟩ | ⟨g,cur,rfl,hB,hlc,hcm,hcs,htk⟩
 ·omega
 have hLg:L g=10+at_:=e2.clr g ⟨_,rfl,rfl⟩
 have hglt:=hB.lt
 refine ⟨g,kb,g,fun w' M=>?_,hLg,rfl⟩
 have s:=Stp.same M L
 have hB':=hB.mod' M
 have hsz:place < cur.size:=by rw [hcs]; omega
 have hcv:cur[place]?=some (bV ls[at_][place]):=by
  have:=congrArg (fun l=>l[place]?) htk
  simp only [List.getElem?_take,Nat.mul_one,hp,if_true,List.getElem?_map] at this
  rw [Array.getElem?_toList] at this
  rw [this,List.getElem?_eq_getElem hp]; rfl
 refine ⟨⟨_,hG,by rw [add_at,Nat.zero_add,cell_mod M (h1.own.lt ⟨_,hG,rfl⟩) (fun h=>h)]; exact hcell⟩,by rw [hB'.cell]; exact hcv,hB'.canSet hsz rfl,?_⟩
 have s2:Stp (·=10+at_) w' L (w'.setCell ⟨g,place,none⟩ (bV x)) L:=Stp.setCell (w:=w') (a:=⟨g,place,none⟩) hLg
 have O:=(h1.stp s (fun h=>h)).stp s2 (by omega)
 refine ⟨vs,CRow.re (COw.row O) (fun _ _ _=>rfl),by rw [h2,List.length_set],fun j hj=>?_⟩
 rw [List.length_set] at hj
 by_cases hja:j=at_
 ·subst hja
  rw [List.getElem_set_self]
  refine ⟨_,kb,by rw [e1,List.length_set],⟨RdB.of_blk (hB'.set place (bV x)) (fun i hi=>?_),fun _ _ _=>rfl⟩,by rw [List.length_set]; exact hlc⟩
  rw [List.length_set] at hi
  rw [Nat.zero_add]
  by_cases hip:i=place
  ·subst hip
   rw [Array.getElem?_setIfInBounds_self_of_lt hsz]
   simp [List.getD_eq_getElem?_getD,hi]
  ·rw [Array.getElem?_setIfInBounds_ne (by omega)]
   have hcv:cur[i]?=some (bV ls[j][i]):=by
    have:=congrArg (fun l=>l[i]?) htk
    simp only [List.getElem?_take,Nat.mul_one,hi,if_true,List.getElem?_map] at this
    rw [Array.getElem?_toList] at this
    rw [this,List.getElem?_eq_getElem hi]; rfl
   rw [hcv,List.getD_eq_getElem?_getD,List.getElem?_set_ne (fun e=>hip e.symm),List.getElem?_eq_getElem hi]
   rfl
 ·rw [List.getElem_set_ne (fun e=>hja e.symm)]
  obtain ⟨ob',kb',a1,a2⟩:=h3 j hj
  have O2:=(a2.stp s (fun h=>h)).stp s2 (by omega)
  exact ⟨ob',kb',a1,⟨O2.own.bytes,fun _ _ _=>rfl⟩,O2.own.cap.1⟩
end
end Go.Proofs.YtfghidehlnfdiaaGreat
end
