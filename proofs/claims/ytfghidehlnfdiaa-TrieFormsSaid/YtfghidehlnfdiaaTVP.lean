/- Five Keccak values, round by round (printed by genk.py). -/
/- The document's example: the law's own check of it. -/
/- The verification conditions of some functions, printed by a program of ours (wip/PrintVc.lean). -/
import Derived.Test.YtfghidehlnfdiaaXLk
import Derived.Test.YtfghidehlnfdiaaProg
import Derived.KernelRfl
section
namespace Go.Vcg
def kAm : List UInt8 := [243, 128, 128, 128, 128, 128, 128, 222, 23, 220, 128, 128, 128, 128, 128, 128, 198, 53, 132, 99, 111, 105, 110, 128, 128, 128, 128, 128, 128, 128, 128, 128, 133, 112, 117, 112, 112, 121, 128, 128, 128, 128, 128, 128, 128, 128, 128, 132, 118, 101, 114, 98]
def kAh : List UInt8 := [212, 59, 135, 253, 205, 66, 23, 1, 60, 204, 146, 208, 70, 98, 225, 45, 54, 228, 204, 37, 220, 105, 0, 119, 205, 130, 26, 25, 86, 252, 62, 54]
def kAL0 : List (BitVec 64) := [0xde808080808080f3, 0x808080808080dc17, 0x806e696f638435c6, 0x8080808080808080, 0x8080797070757085, 0x8480808080808080, 0x162726576, 0x0, 0x0, 0x0, 0x0, 0x0, 0x0, 0x0, 0x0, 0x0, 0x8000000000000000, 0x0, 0x0, 0x0, 0x0, 0x0, 0x0, 0x0, 0x0]
def kAL1 : List (BitVec 64) := [0x4202f8f3351087bd, 0xc0d8e87f5c9dd297, 0x9dc3002c2c05873f, 0x2ef1b5098cb02f47, 0x80c8252ce834f563, 0xf43d26d1789ef384, 0x97c104a143880c9, 0xc0be3bda8a43530, 0xfd711e1f5a5b5851, 0x83038381a1f7f04, 0xabbe393d8c11aae4, 0xe0e06038fc6e3a00, 0x7e488be9921cdd36, 0x94b0a03c06810fe6, 0xa18e964079f01605, 0xa5c4fc8b3c007787, 0xd1882c918c0f8fb3, 0x7e4a751e222c977f, 0xc2c6f0fdcc1001cb, 0x9d896eebcf9ce6e4, 0xa07bfa29e01da369, 0x46c43b4cc5711041, 0xb3373625c4148d0, 0xa00c3f03e2eca76b, 0x2df34e3f1be1bbfb]
def kAL2 : List (BitVec 64) := [0xa71fc8c63dfd290f, 0xa5bf53e9525ebdc8, 0x24f5d245245e8e90, 0x9a3879e47541e559, 0xac44595de711a1d, 0xd1a2d1f2aca53cc0, 0x71ec6fd3d3215376, 0x765428c22f7f0678, 0xdcb7aed802449085, 0xb794e6aa389be348, 0xda2ba3c4311d5313, 0x73f0342a071bddb6, 0x41a22a3b2769a423, 0xcc61ed9f0e64b08a, 0x1db143683b3799b5, 0x212f153a89ee2924, 0xcdbc5b1b5830abc6, 0xb77e58c534404b30, 0xa8d680a2c6b3cddb, 0xc21826071534779c, 0xfb4b90dd4b2f6746, 0x94bb8e923fd7e314, 0x156e00be01805f12, 0xc8bcc690f8b74731, 0xa80053e6a1896d4c]
def kAL3 : List (BitVec 64) := [0x10abe743f7fb2640, 0x33800a739e152caf, 0x165243c974f62b59, 0xe1881962b96902c6, 0x565658e90ce723f9, 0xd764d29918b97d15, 0xd35abe4afcab0e4e, 0x49546e8c5a97c2f5, 0x4275e9303c94c9b4, 0x27c369e26ddb353c, 0x635cba4807d48943, 0x6e27be575590ea96, 0xe8c95dd8a7d721b6, 0x7ab0c2575db9d4c4, 0xe5608137a327057a, 0xc2a02b26f6fd2ab5, 0x462e34daa0677511, 0x15aa9d3b16a15c1e, 0x7c3f8f861785ce59, 0x95f7483d3a312acb, 0x6ad5edb6d2c5b35c, 0x16f46ba6afb3922d, 0xadd13a8de9a8ea7c, 0xd30d3fbf3cb6ec4f, 0x592822d902e6dc4]
def kAL4 : List (BitVec 64) := [0x285cd59be66fbe6f, 0x3f861c0e759ba9e6, 0x7bacf650d9a51146, 0x16c62709a6267112, 0x7705368560765b18, 0x51feed5def71db81, 0xbdf0f7bdfc754717, 0xdfb3774835a21cee, 0xf85f0ab512719017, 0x7fe13f7cd6f393c8, 0x48efde49e7937700, 0xe707f9b122e52ba6, 0xfb5534815d9701c6, 0x445cd6590080a2ba, 0x55fb0d76e58bc0b2, 0x2256689c39996ea0, 0x529f132c7fa8bb19, 0xb0b194d549e665f4, 0xe60a001bb54fb9fd, 0x43548a3e0eba002b, 0x97706a8e2b819b4, 0x4e225455b5fb4915, 0x83f9814f69c00764, 0x9241a0d47fc6568a, 0x43ee438f38c99483]
def kAL5 : List (BitVec 64) := [0x669d2576dafac98, 0x137497f843b216cf, 0x91186ade02b4b40b, 0xc89cf05dd3e62c76, 0x1be4cedb6ebff8c6, 0x4b4772678cacd157, 0x526e0d4b964b5f6f, 0xfe11c04a06708bf7, 0x2771603d5b6a5def, 0xd8ed21545dc5a715, 0xffcd2b6566940119, 0xdba579fa0d9d9d27, 0xc8b68e2fa226a3d8, 0x799eca3bfcf33569, 0x85a1055dbe6a152f, 0xfbafa1e126ac9367, 0x88fbd5defda99374, 0xf8c4344abc6e0194, 0xb057eb6081552ad6, 0xe00516847334a311, 0x6f9f411843131efb, 0x17bfb3186538b667, 0x56d585f9dec2d13a, 0xa7e8bd41870eb29d, 0xa12ef9a6a8cb444e]
def kAL6 : List (BitVec 64) := [0xe1514b992bb6222, 0xd37716ff078b3005, 0xdff9995eb412a025, 0xb301809783757fec, 0xf9c345e99adc569d, 0x432677efa0e1726b, 0x855ae8aba1ad4a1f, 0x9ddbac4dc1c1fd8f, 0xeec46705122c7623, 0x8e4e4b105c4fdb2f, 0xeedd2c8f1ac2d5a3, 0x54526fe8b231d73a, 0xb738945d4abeed28, 0x2fe80b4753914e2e, 0x2fd8103de0f18fb1, 0xc2a6562fca7c5787, 0xea917da5731dd0d6, 0xadc05d9e2e91e71c, 0x52de9a7d62ab9f59, 0x69a8e9e398ed17b5, 0x2bdbfde9ece43d3a, 0x41bab53478897d46, 0x87d18234edce5f00, 0x74a3ec86f6de18f9, 0x98c7ca823c2a3861]
def kAL7 : List (BitVec 64) := [0x55af1be4afd0ec97, 0x57547d547f05454d, 0x374c50324f69658e, 0x2bd0783b8b03bca3, 0x2c64d9bc79a40704, 0xaddcc24cf0ece07b, 0x9583ef76d884c396, 0xfa7d07ad186f43e8, 0xaaf7c1c7dc8f50be, 0x40c5b0d8a7e6c866, 0x9fa18e71d2df1cc6, 0x51a6edc8ed73fc7, 0xd115d63639772f18, 0xd81fe991f0454672, 0xc84904104a332204, 0xc75b1643c565e23d, 0x5402ebff295d9519, 0x1d50e9d85dade2c2, 0x9e75cc36235756ae, 0xd8dd35712305a74b, 0xd10b1f4dc33a9cc0, 0x11479db17d670a38, 0x66803eff45a51ac5, 0x9df76e73a9bb20ea, 0xdcce733a2ff22ea0]
def kAL8 : List (BitVec 64) := [0x7145a8ba898a646a, 0xac9f32f609dad5f5, 0x8288de15478ee1f6, 0x68aca4dddd918ad8, 0xb95576fdb8842c0, 0xaec3680d10dd078c, 0xf4dbc7b49d399ffd, 0x5a55a3776859f194, 0x67e7dd01138baeca, 0x9b1739b36272c0a6, 0x53193d8e115d89d1, 0x420ac54e8a35a4d2, 0x456e617ea1a52a56, 0x314fee3578a2ce30, 0xa448c7d312fbb3a6, 0x1a4f9f126c2ede75, 0x2aa4a8919f7fd42b, 0xca579f8ce265c0e5, 0x91983555325485f7, 0xa99bf5ae01afcf10, 0x513dcfacfab3bc71, 0x2ec26ca59b1dcd72, 0xbf31e990f307cb88, 0x379dd0d1f0419fc7, 0x92f789a869ee5972]
def kAL9 : List (BitVec 64) := [0x521a94915fafec46, 0x4f57a68c97a32bd4, 0x11dd035a218dc3d3, 0xaa456d7f2ceecc9a, 0xcd778233ae01e25b, 0xee300ff16b754566, 0xd87df024d383881, 0xd7521f9d3bbb03af, 0x2b9567dc63c0b3b1, 0xd321cf2c44159314, 0x35b294e040de5cab, 0x1ef06d6ec99bcd3f, 0xc6c2554389dd245d, 0x757c49c82da5117e, 0xc118536d7e740b3f, 0x74235537a0da73e1, 0xae40faccb1c5e560, 0x2eb327ba89714990, 0xe3a758c043a3d92e, 0xd184a79891ecd4ef, 0xbf0973ecad6a2d91, 0x68cc3d8cb9058a78, 0x5cb9bd5547df50e5, 0x60501627054b720, 0xa2d4588ceead9fa0]
def kAL10 : List (BitVec 64) := [0xc37d13f7939cbe13, 0x76cc3eb3e528cac8, 0xac8808d5a799cd81, 0x6798141941b589b9, 0xb0bcfb2616030dcf, 0x98fe030bb863fcc8, 0x653e0107479c70ea, 0x4faf9c54b2a4abad, 0xd4f8f51caeab2d96, 0x59814b68bc48fc14, 0xd795561ea32af12f, 0xda1cc9c3f1edd89e, 0xcc4d4514aa929588, 0xee3bf731f9932642, 0xff03eec9f9e893e8, 0x62ea218732c9ccd2, 0xbd157bc31b7ed47b, 0x3ca3eb3a92a0a2cb, 0x8084988bce2ae753, 0x163d355081cf4201, 0xdaf5715aa624d4ed, 0x8940c16b7d564106, 0x3b28c12f99c4c569, 0x34594680ce2232f8, 0x3ec64ea4f1bb4fbd]
def kAL11 : List (BitVec 64) := [0x4682882aca649282, 0xeb358ef4f318343, 0xcc7671158e4cef87, 0x39e121dd817aadee, 0x938927d6d7f8eef4, 0xfa0b583a039d3257, 0xd859a2cf6741a598, 0x1137163f50d3db3c, 0x73fb9711f057a589, 0xa223e074147772ac, 0x8e087f8b210c929a, 0x47902c4fbdfca94b, 0xb81b409af5f28c84, 0xa9d112b51b48d393, 0x760fbc21c574155b, 0x71478a7cf0ad426b, 0x963bcd2920d9756f, 0x3883c4830b51208e, 0x824b4d65e4c38988, 0xe45176f6e26ffb7d, 0xe886a1006d79a53b, 0x37d0e8e28d1477a7, 0x8e69dc2f4b404f6b, 0xba1e8947bf223087, 0xb568c9f633e14907]
def kAL12 : List (BitVec 64) := [0x733dfb59cf8ef275, 0xbc370f4791829443, 0x5e3989f513ec0375, 0x7ee12b45598da91d, 0x64dafe0f3071c21d, 0x25ecc0c87d23816b, 0xbe5cea48e6a8b3a8, 0x4dbaeea0b7d4ba07, 0x45bef34b2a885964, 0x1b28a6e420815278, 0x5c13f0c4c9d9e2da, 0xa48b085a6eb5ecc5, 0x5c9db4e36566f5cf, 0x4a1f277860223a79, 0xa9a7213c35ee78c3, 0x992bb92180fcb256, 0x7e3191ecff57e58b, 0x475e574bdb25a52e, 0x6be9c00cb494ddf5, 0xe9d497f70779b999, 0x1bde966cfd2173c7, 0xf6c7b910f40bc422, 0x10eec70d824aca1f, 0xa6f1d40cb5122764, 0xafc061e4bb2ab434]
def kAL13 : List (BitVec 64) := [0xbee0f7cf7660606a, 0xbe4ed7f570595506, 0x6bfb7061953cb2fb, 0xa1f2910fbf8e3a93, 0xd0a6a90641989dfb, 0x4eee749becf84177, 0x4623af44726b58fb, 0xe37e8093a827d6f8, 0x196a9ceb3e063e73, 0x78c8b9ad16ba58bf, 0xa38d9fa8e33022c, 0x275fd9781f45ebc7, 0xbdc1702c1e6387c, 0xe3a46948cab9a351, 0x8eae27ad1e473608, 0xc8589b905da54ef9, 0x3c9a64fc9c0d4d64, 0xdc3605e99bf49075, 0xa26774431d054edc, 0xe91dd8e6f517b9ca, 0x426792ac491a4e31, 0x1ebe4bff9e3a5330, 0x1c473587c8013c90, 0x2d0022a28f634c78, 0x32b22f49b435cf5]
def kAL14 : List (BitVec 64) := [0xc6ba7bf2d108f6f, 0xdb0d6e07a53bb6c1, 0xcd119afecc6a12f8, 0x3ea7aab2147f1643, 0xcc67188fbfaabdda, 0xb6fe4deaffa859ca, 0xdca9cc53e6849052, 0x4f10897630aaa58b, 0x5373d5c70085440, 0xe13c4bebccb951ca, 0xd86950ca54dbef96, 0xb792b981521002f9, 0xf4e7e67cda561069, 0xc4419b3834db00db, 0x2f23e2ab807dd298, 0x74d23bf8e78353a3, 0x37c27f9f12420534, 0x1cb4996704c22254, 0xfdc219d721934a8, 0x5ff81681436098c, 0x179cc6995f24802d, 0x24715fc8aae9b6f9, 0x1ce027df73b12514, 0x27548d710896a080, 0xa3fbcc23a03571a7]
def kAL15 : List (BitVec 64) := [0x674d60f63458660a, 0xe1813306c3d1757a, 0x299926ea44e51c39, 0x3c31a4db16d290f0, 0xa859eee61d084cc9, 0xf49249ffe9f2e24e, 0x67d89015b400503e, 0x9ae69adf2dfc71d3, 0x9963bb5255dfb1ec, 0x40737b8535df53fa, 0x1ff4368af5f83d92, 0x8b9486336a6df1d1, 0xcd96c95baef1c57a, 0x8938f883cc622ec1, 0xb469a932ad0011e9, 0x5e6098eaa6e150fb, 0xcc8b62a5d8846e3e, 0x9db29c034f756061, 0x3308fc000c0958f3, 0x3d9a1d3a6ddb8f89, 0xf169f97a0f6a6e6c, 0xaa89a845cc57dab8, 0xcb62a9ed19feb6e9, 0x5e755f6d4922fbc9, 0x2c0a3cbd5f8de253]
def kAL16 : List (BitVec 64) := [0x7040aa83a805c5a7, 0xb2aeb55486f06311, 0xbfe419a13d7f299e, 0x79becf3c1c7257d8, 0x638b34d696fdba87, 0x6f0b16ee0cf2685f, 0x7e7793966b76785f, 0xa997aee6853de520, 0x822f5f9fbce036a, 0x9404b9dd418703e6, 0x39a39b2971f95014, 0x407e0cac0a9aa3a4, 0x7876877ea3754f83, 0xc8a46a8cecb9fc39, 0x2ceeccd3332baf1c, 0x27877e54677a53d6, 0x26d67ecec93c829c, 0x118d05018a0bc2a1, 0xdb847c1889962a9d, 0x19bdeaa6c837eb43, 0x31d69060f648e94b, 0xfe3347e07f609f01, 0x79d9820c380a3e12, 0x6dfdbba81af5305f, 0xad64335db4b79123]
def kAL17 : List (BitVec 64) := [0xb70c05b1bec36b53, 0x45032466d368e75a, 0x44e238bff79c4e57, 0x5f0e34513535979f, 0xc592092c2a6a2457, 0xc8f64b46c309f090, 0xcf431a9a76efebab, 0x94d838d43d4bb32d, 0x9f524b599b33fbed, 0xe2620746dfe6fc95, 0x37206e1d3363be7a, 0xd4a330310dddd15c, 0xcee85a940c031a53, 0x8b8fbb4028d7cc26, 0x7b8ba10332ebdaa8, 0xecbd08004868e8ae, 0x6675cb4a82fa8cd5, 0x718a5c4ff26f65e0, 0x8da75c221cfa5ae, 0xe9b43ff6589065c6, 0x6dc813c4bd78fa1f, 0x2b4a817954b0a7f8, 0x92cc5b85ee24f410, 0xa1a203c164bdccb6, 0xa8703dce4c198f3]
def kAL18 : List (BitVec 64) := [0x8f1e4f0d2b9671a4, 0xcf10a8f8e9bde7c7, 0x922040c31d3d6bb6, 0xc02dacaf89051ae1, 0x31f394d44fc2185e, 0x6b1d75ff9ee4f4ff, 0xb54af9fff4c9a9fe, 0x7e838074210b632d, 0xabd9da1c54417571, 0x3c8a6d7da2e77b01, 0x8d010acf3bde6b43, 0x95358f1546f74708, 0xc20c439b201051e1, 0x8bfae2ac5b1eb09a, 0x352acc8fa52250f0, 0x46f40c103da9be61, 0x6dfc296500b55f94, 0xd2e5726d1a2f93dc, 0xbac65d9c055fe3a9, 0xd128879d720c4ed0, 0xbcaa96308992c0d1, 0x274f2bf0f55e95a5, 0x1d3efa945fea0ac3, 0x7f7fa4ec1907750d, 0x263029791c94d524]
def kAL19 : List (BitVec 64) := [0x6be84ce043f2c7f6, 0x823bce45e91427f5, 0x6404e5e5f2285490, 0x3246716e7ff0b21c, 0x141aaee1cb72494e, 0xe4c498b13bfce987, 0xe2e27b282dfba971, 0x1998580284a2a28b, 0xa872e7ab31d67130, 0xfc71db999cb3db13, 0xcfd62edec1fbccd0, 0x841c3b3f9cad026, 0x2bde83220be0f39d, 0xab6e81160f521db, 0xd3d64e53a228f146, 0x9457aa5089f617c, 0xf0bdea5f9e756307, 0x41ca97a681506ed6, 0xba1da324e1523a23, 0x9da81cc24b6dc9e7, 0x9930932ef18eefff, 0x19ca6d772aa55c78, 0x17520f82e258e835, 0xcb20f7260d99f26d, 0x9b24554cf61a1719]
def kAL20 : List (BitVec 64) := [0xd706d5eae1a7b182, 0xbdfdd38d82def191, 0x6839b708d15aaa70, 0x10ef9130511e9db4, 0xfe5daf673b2132f4, 0xd68afc2f748bf35e, 0x7445f632bc79e505, 0xe345edffdd1d17e6, 0x943f64b0f69f7c66, 0x4acd776bb783b792, 0x938360978a6a8e3b, 0xca7f1e6a4cfe8bde, 0x7555f650aa649977, 0xaf111c0d95531bdf, 0x49e6bd8a17039e3c, 0x1a3197df9eeefd70, 0x19037dd5a3b49f1e, 0xac74cea3ae69fd67, 0xa5bac303bf1918bc, 0xc239f0b4ad82c48c, 0xb9a5c866045b5a3f, 0xcdd765744409dcc3, 0xddc157c9b3a146b0, 0x5e1b5445f23cdaab, 0x6588ebd55a14de83]
def kAL21 : List (BitVec 64) := [0x834545f437181b7b, 0xdb1d162eeca645e5, 0xff8ee015792596b5, 0x61de37f4061afd49, 0x763a4b8b04d651b2, 0xb2b74c8e28ff79a, 0x47351b158d9b9182, 0x7f12d5cf1780e74b, 0x3b72c6f6809e2aa3, 0x1116580076357562, 0x3edc75fae3f54e21, 0x478ec7bcd5ef1174, 0x9dedab0a8f3e36aa, 0x49bff9b1f3cb8ed9, 0xc0a18c928d1fa417, 0x9af1ce54bb287263, 0xbf743242a63ec253, 0x46c863772d697f97, 0x40396450188aab73, 0x1260399e4205b957, 0x87d23353aee143b5, 0xddd51256f8c22df2, 0x468db7f00d74f38, 0x22a08fb5871fa216, 0xf5d5649689bca85b]
def kAL22 : List (BitVec 64) := [0x3053d0cd4708fbd5, 0x7ec425b06d34015f, 0xde5af3fe831a142, 0x5535d65d63d23838, 0x3394ac3c5f7e34fd, 0x88394ef24583ed50, 0x1dc9da88d111787f, 0x6f521ce0184dec7c, 0xd7f6757ab0c002eb, 0xce8befe817f9aa08, 0x8dd4709c7aa58bd, 0x93f7c0086585549, 0x86bafab57d0ced36, 0xc7e18ef32a4f0c3f, 0xd1b703a01c7fd2d4, 0x29c6d98662b4ded4, 0x2a43bb025386b1c1, 0xac9631bc3c9560dc, 0xa3a6506bfa408065, 0x7bdc226cde6190d6, 0xe16e254bd1a3e42a, 0x4576e0328fa2dc99, 0x4dfb36fb04032359, 0xab09b8535c904796, 0x218bd0a90a9d5c5e]
def kAL23 : List (BitVec 64) := [0x1ee21a699af7d83f, 0xa83203d92432cac3, 0x6175c2d635792922, 0x2caae5cc5dc5ff3f, 0xb7b4cacf753363ce, 0x9d23f1ea2b9a6fe0, 0x1f2bc398a9a33bca, 0xfb5669e8334ae3b3, 0x8540ba199006c61e, 0xd874eca46b8d200c, 0x301b39ed61934405, 0x5713fa304353dc78, 0xeb3d41cfdb58cf73, 0x6fbd7e4de09144c0, 0xdc2eb04799c6ee80, 0x3764fb23f77b29de, 0xa37ec93e2cf54d20, 0xcb57067e939a334f, 0x7125b8b81f99955, 0xc959960f156dbb85, 0xa19e7c2bec188894, 0x1a87a8a777b297f8, 0x156063f602076c57, 0x25e2279bc9ae0cdf, 0xc4a4e6ce5b67aa74]
def kAL24 : List (BitVec 64) := [0x11742cdfd873bd4, 0x2de16246d092cc3c, 0x770069dc25cce436, 0x363efc56191a82cd, 0xe8aa5e56b9cf9eb1, 0xa95f294224fadc76, 0xae112227747229e1, 0xcfc046ec54f09f04, 0x5d4cf68b941f0dc2, 0x26bb22451bb40864, 0xa29f905e66ce1f6c, 0xdae20e3a71b7bb5c, 0xde6135ce967957f1, 0xbce3caffd2f68426, 0xec3c7d867ce791be, 0x54fc7130a84ee97d, 0xef32a6130f7a8428, 0x82721821b9eb64bb, 0x674b671a0ad0ad35, 0xc8f56c6c3c37b92f, 0x22c80ababd4292, 0xc18f3d385ef334f8, 0x7fd26531f0aa4160, 0x3cd47e762be43fa8, 0x465aabb8d20fca15]
theorem kAR0 : ∀ j : Nat, j < 25 → rnd 0 (lk kAL0) j = lk kAL1 j := by decide +kernel
theorem kAR1 : ∀ j : Nat, j < 25 → rnd 1 (lk kAL1) j = lk kAL2 j := by decide +kernel
theorem kAR2 : ∀ j : Nat, j < 25 → rnd 2 (lk kAL2) j = lk kAL3 j := by decide +kernel
theorem kAR3 : ∀ j : Nat, j < 25 → rnd 3 (lk kAL3) j = lk kAL4 j := by decide +kernel
theorem kAR4 : ∀ j : Nat, j < 25 → rnd 4 (lk kAL4) j = lk kAL5 j := by decide +kernel
theorem kAR5 : ∀ j : Nat, j < 25 → rnd 5 (lk kAL5) j = lk kAL6 j := by decide +kernel
theorem kAR6 : ∀ j : Nat, j < 25 → rnd 6 (lk kAL6) j = lk kAL7 j := by decide +kernel
theorem kAR7 : ∀ j : Nat, j < 25 → rnd 7 (lk kAL7) j = lk kAL8 j := by decide +kernel
theorem kAR8 : ∀ j : Nat, j < 25 → rnd 8 (lk kAL8) j = lk kAL9 j := by decide +kernel
theorem kAR9 : ∀ j : Nat, j < 25 → rnd 9 (lk kAL9) j = lk kAL10 j := by decide +kernel
theorem kAR10 : ∀ j : Nat, j < 25 → rnd 10 (lk kAL10) j = lk kAL11 j := by decide +kernel
theorem kAR11 : ∀ j : Nat, j < 25 → rnd 11 (lk kAL11) j = lk kAL12 j := by decide +kernel
theorem kAR12 : ∀ j : Nat, j < 25 → rnd 12 (lk kAL12) j = lk kAL13 j := by decide +kernel
theorem kAR13 : ∀ j : Nat, j < 25 → rnd 13 (lk kAL13) j = lk kAL14 j := by decide +kernel
theorem kAR14 : ∀ j : Nat, j < 25 → rnd 14 (lk kAL14) j = lk kAL15 j := by decide +kernel
theorem kAR15 : ∀ j : Nat, j < 25 → rnd 15 (lk kAL15) j = lk kAL16 j := by decide +kernel
theorem kAR16 : ∀ j : Nat, j < 25 → rnd 16 (lk kAL16) j = lk kAL17 j := by decide +kernel
theorem kAR17 : ∀ j : Nat, j < 25 → rnd 17 (lk kAL17) j = lk kAL18 j := by decide +kernel
theorem kAR18 : ∀ j : Nat, j < 25 → rnd 18 (lk kAL18) j = lk kAL19 j := by decide +kernel
theorem kAR19 : ∀ j : Nat, j < 25 → rnd 19 (lk kAL19) j = lk kAL20 j := by decide +kernel
theorem kAR20 : ∀ j : Nat, j < 25 → rnd 20 (lk kAL20) j = lk kAL21 j := by decide +kernel
theorem kAR21 : ∀ j : Nat, j < 25 → rnd 21 (lk kAL21) j = lk kAL22 j := by decide +kernel
theorem kAR22 : ∀ j : Nat, j < 25 → rnd 22 (lk kAL22) j = lk kAL23 j := by decide +kernel
theorem kAR23 : ∀ j : Nat, j < 25 → rnd 23 (lk kAL23) j = lk kAL24 j := by decide +kernel
theorem kAS0 : ∀ j : Nat, j < 25 → rnds 0 (xorB zeroS (padB kAm)) j = lk kAL0 j := by decide +kernel
theorem kAS1 : ∀ j : Nat, j < 25 → rnds 1 (xorB zeroS (padB kAm)) j = lk kAL1 j := fun j hj => (rnd_congr 0 kAS0 j hj).trans (kAR0 j hj)
theorem kAS2 : ∀ j : Nat, j < 25 → rnds 2 (xorB zeroS (padB kAm)) j = lk kAL2 j := fun j hj => (rnd_congr 1 kAS1 j hj).trans (kAR1 j hj)
theorem kAS3 : ∀ j : Nat, j < 25 → rnds 3 (xorB zeroS (padB kAm)) j = lk kAL3 j := fun j hj => (rnd_congr 2 kAS2 j hj).trans (kAR2 j hj)
theorem kAS4 : ∀ j : Nat, j < 25 → rnds 4 (xorB zeroS (padB kAm)) j = lk kAL4 j := fun j hj => (rnd_congr 3 kAS3 j hj).trans (kAR3 j hj)
theorem kAS5 : ∀ j : Nat, j < 25 → rnds 5 (xorB zeroS (padB kAm)) j = lk kAL5 j := fun j hj => (rnd_congr 4 kAS4 j hj).trans (kAR4 j hj)
theorem kAS6 : ∀ j : Nat, j < 25 → rnds 6 (xorB zeroS (padB kAm)) j = lk kAL6 j := fun j hj => (rnd_congr 5 kAS5 j hj).trans (kAR5 j hj)
theorem kAS7 : ∀ j : Nat, j < 25 → rnds 7 (xorB zeroS (padB kAm)) j = lk kAL7 j := fun j hj => (rnd_congr 6 kAS6 j hj).trans (kAR6 j hj)
theorem kAS8 : ∀ j : Nat, j < 25 → rnds 8 (xorB zeroS (padB kAm)) j = lk kAL8 j := fun j hj => (rnd_congr 7 kAS7 j hj).trans (kAR7 j hj)
theorem kAS9 : ∀ j : Nat, j < 25 → rnds 9 (xorB zeroS (padB kAm)) j = lk kAL9 j := fun j hj => (rnd_congr 8 kAS8 j hj).trans (kAR8 j hj)
theorem kAS10 : ∀ j : Nat, j < 25 → rnds 10 (xorB zeroS (padB kAm)) j = lk kAL10 j := fun j hj => (rnd_congr 9 kAS9 j hj).trans (kAR9 j hj)
theorem kAS11 : ∀ j : Nat, j < 25 → rnds 11 (xorB zeroS (padB kAm)) j = lk kAL11 j := fun j hj => (rnd_congr 10 kAS10 j hj).trans (kAR10 j hj)
theorem kAS12 : ∀ j : Nat, j < 25 → rnds 12 (xorB zeroS (padB kAm)) j = lk kAL12 j := fun j hj => (rnd_congr 11 kAS11 j hj).trans (kAR11 j hj)
theorem kAS13 : ∀ j : Nat, j < 25 → rnds 13 (xorB zeroS (padB kAm)) j = lk kAL13 j := fun j hj => (rnd_congr 12 kAS12 j hj).trans (kAR12 j hj)
theorem kAS14 : ∀ j : Nat, j < 25 → rnds 14 (xorB zeroS (padB kAm)) j = lk kAL14 j := fun j hj => (rnd_congr 13 kAS13 j hj).trans (kAR13 j hj)
theorem kAS15 : ∀ j : Nat, j < 25 → rnds 15 (xorB zeroS (padB kAm)) j = lk kAL15 j := fun j hj => (rnd_congr 14 kAS14 j hj).trans (kAR14 j hj)
theorem kAS16 : ∀ j : Nat, j < 25 → rnds 16 (xorB zeroS (padB kAm)) j = lk kAL16 j := fun j hj => (rnd_congr 15 kAS15 j hj).trans (kAR15 j hj)
theorem kAS17 : ∀ j : Nat, j < 25 → rnds 17 (xorB zeroS (padB kAm)) j = lk kAL17 j := fun j hj => (rnd_congr 16 kAS16 j hj).trans (kAR16 j hj)
theorem kAS18 : ∀ j : Nat, j < 25 → rnds 18 (xorB zeroS (padB kAm)) j = lk kAL18 j := fun j hj => (rnd_congr 17 kAS17 j hj).trans (kAR17 j hj)
theorem kAS19 : ∀ j : Nat, j < 25 → rnds 19 (xorB zeroS (padB kAm)) j = lk kAL19 j := fun j hj => (rnd_congr 18 kAS18 j hj).trans (kAR18 j hj)
theorem kAS20 : ∀ j : Nat, j < 25 → rnds 20 (xorB zeroS (padB kAm)) j = lk kAL20 j := fun j hj => (rnd_congr 19 kAS19 j hj).trans (kAR19 j hj)
theorem kAS21 : ∀ j : Nat, j < 25 → rnds 21 (xorB zeroS (padB kAm)) j = lk kAL21 j := fun j hj => (rnd_congr 20 kAS20 j hj).trans (kAR20 j hj)
theorem kAS22 : ∀ j : Nat, j < 25 → rnds 22 (xorB zeroS (padB kAm)) j = lk kAL22 j := fun j hj => (rnd_congr 21 kAS21 j hj).trans (kAR21 j hj)
theorem kAS23 : ∀ j : Nat, j < 25 → rnds 23 (xorB zeroS (padB kAm)) j = lk kAL23 j := fun j hj => (rnd_congr 22 kAS22 j hj).trans (kAR22 j hj)
theorem kAS24 : ∀ j : Nat, j < 25 → rnds 24 (xorB zeroS (padB kAm)) j = lk kAL24 j := fun j hj => (rnd_congr 23 kAS23 j hj).trans (kAR23 j hj)
theorem kA_last (j : Nat) (h : j < 25) : lastS kAm j = lk kAL24 j := kAS24 j h
theorem kA_sum : sumOf kAm = kAh := by
  have e : sumOf kAm = (List.range 32).map (outAt (lk kAL24)) := by
    unfold sumOf
    refine List.map_congr_left (fun i hi => ?_)
    have hi := List.mem_range.1 hi
    simp only [outAt, kA_last (i / 8) (by omega)]
  rw [e]; decide +kernel
def kBm : List UInt8 := [228, 130, 0, 111, 160, 212, 59, 135, 253, 205, 66, 23, 1, 60, 204, 146, 208, 70, 98, 225, 45, 54, 228, 204, 37, 220, 105, 0, 119, 205, 130, 26, 25, 86, 252, 62, 54]
def kBh : List UInt8 := [148, 169, 249, 91, 216, 150, 152, 228, 218, 24, 18, 224, 81, 128, 83, 129, 59, 77, 91, 135, 202, 175, 107, 60, 111, 165, 126, 158, 80, 192, 255, 104]
def kBL0 : List (BitVec 64) := [0x873bd4a06f0082e4, 0x92cc3c011742cdfd, 0xcce4362de16246d0, 0x1a82cd770069dc25, 0x1363efc5619, 0x0, 0x0, 0x0, 0x0, 0x0, 0x0, 0x0, 0x0, 0x0, 0x0, 0x0, 0x8000000000000000, 0x0, 0x0, 0x0, 0x0, 0x0, 0x0, 0x0, 0x0]
def kBL1 : List (BitVec 64) := [0x29aa05843b490f26, 0x40e653ae2bc73ede, 0xdaa1ddbc6f157985, 0x2a919b591559d684, 0x1959a7f136fdb5e5, 0x454d3a4c7c684f9a, 0xc255d4d3ead05ff6, 0x48d2cda1032e651f, 0x88eeb0fe6a1b34b9, 0xe6c9f05c60732ef2, 0x196f0de5748d0551, 0x862db9cfcc1d49dd, 0x83a975f4d29dda09, 0xed4b3fce28d8ed04, 0x6d0f3e7b7dcfee9, 0xc76784faa89faf12, 0x1688df7af34510c5, 0xee6b8a8351391c71, 0xde778b8312f8b2e4, 0xe254be34109c8aab, 0xfec3e030e78cde53, 0xb2f5725b208e2d75, 0x3c28d7aefdb20efb, 0x739ac25b385ea8e9, 0x7aeaf1e4b7523c30]
def kBL2 : List (BitVec 64) := [0x2a9ae61a809752da, 0xc466001cbb280b6f, 0x672f6f73d2ec2fa3, 0x87e0bca1c6bb34ac, 0x8442dc402f3f0939, 0x5024d28526b97633, 0x33371227aae9d484, 0x922e8d5cbea7f3, 0x210b9bb6df8ca434, 0xe9353efbf261e6ba, 0xaf660b4ec4f17a3, 0xe0f91689b5f20cd3, 0x5f5fa977afdb67c0, 0xd08ec216bef6c39b, 0xd23d66419f67f3a0, 0xfd857e5deb0ec298, 0x666a5fc647e5ab91, 0xe438467e4d540376, 0x14bd3a8051b645b9, 0x3819ff2fbfe667da, 0xa5fd3fc37a6a59b2, 0x35e8fc6f136a8505, 0x2a4146af69ab8d11, 0xafdd0ccaed19ea5, 0xf7ad14fd64ba41a8]
def kBL3 : List (BitVec 64) := [0x633c71d080e8318, 0x8adcfe6108726fb0, 0x5840b4dc1ada37cb, 0x432dc44a05027b40, 0x5f6dae7e32dd7da, 0x9d3a7303998ad8fc, 0xa5d01ce2f71d5581, 0xf52e26dce69db947, 0x10139477ab58426b, 0x5705b325a35e4b11, 0x1d19e9a598f8248, 0x7c6ccb5711e29c65, 0x1c329527bdcfa3b0, 0x5c588b71debd8580, 0x475448df60bd6d7d, 0x2708969f50e07fd1, 0xeeeaf5e81a9d318d, 0x7b4e29346d143514, 0x79ff825bc7122a6c, 0x384efbc64d866daf, 0x39d77c1d84c6532c, 0xb099365c9f6a9c5e, 0x26ad7a543e2009b1, 0x1844321ef87ec5a2, 0x43b4e7e9513fb27b]
def kBL4 : List (BitVec 64) := [0xe208ee8b2a85387d, 0xf3e3f82b567b9f4, 0x185defd7dd8cea45, 0xff558e48c6298d71, 0xb0d18bbd7ad4dd9, 0xbba7b06147364ea4, 0x92a90cdd4efb192d, 0x2f5bb3c1102449a5, 0x1cc8f553759e0e59, 0x9ec8c04af10885ce, 0x2b6279c360d7cae7, 0x79d6abaef841429d, 0xe6c4e79413d9adea, 0x3452c7f8149a285f, 0x17393b11350136be, 0x52a68fd0aa39310f, 0xb8be1912940d6e64, 0x23877da2ecba348c, 0x8a24e6dc8e25d4f4, 0xdf3051122992a298, 0x86d036ab7abccea9, 0xdb15297b0ece9773, 0x87ea5cc0db50cd88, 0xc6b77a8fc7fe5d74, 0xae81720698bd29f5]
def kBL5 : List (BitVec 64) := [0x1a005d469a31f12c, 0x7b6ed8f5d474e404, 0x5e9a10ded17fb699, 0xbeb459159651030b, 0x5ace73d223485a2a, 0x2caf492ae5c65956, 0x85d25d4a54d4bd64, 0x39544033a2a00c02, 0x685457b312523a4b, 0x4787146733f4d44f, 0xe495084bf7282178, 0x9a5b8f013384d467, 0x67c2866ba0666c9b, 0x1b49077de6455ec9, 0x9ff92e3a37ac2f25, 0xf414eccaf2e554b5, 0x7a3ddc5053f21367, 0xf950f49bdddf56d1, 0xce2d98244d98494e, 0xfb55935587797909, 0x7acbc18b264caf0e, 0x6b63bf6b5940a1cc, 0x59cbbec0895343ba, 0x3ce51957da232e55, 0x5ec235d40940eb5f]
def kBL6 : List (BitVec 64) := [0x94557327829032f3, 0x9893ad1985597047, 0x71fc9b65857e1f90, 0xdc827fbe813417db, 0x776c9994c6e6b616, 0x52336a44a405a88d, 0x58d7e2dd886c92c3, 0x4417b271680d2633, 0xe8c06edabe91a024, 0xea52bcd1819ffde4, 0xbd29e452003120d7, 0xf9709f453186bf8, 0x7a6485d298e93089, 0xf739319a684cc9f9, 0xf4bde88bbe0e5873, 0xb17cedfe36e308c1, 0xfc11d7d79f8b8bf2, 0x56cf498467832294, 0xe707077df4ccd151, 0x5ed32d5b9e0b16b9, 0xddc3a86a0c4c734, 0x653d27abb620a8f, 0x44636a0485366fb5, 0xc569f67203213e55, 0x58a59ad034564e42]
def kBL7 : List (BitVec 64) := [0x3086e270a63e8d1a, 0x80d000d7f9a109a5, 0x2110657bfb1f2101, 0x863ab4e855cc99cf, 0x8194ad52d43fddfb, 0x6fc43c7755e7242b, 0x9b3319ca6d986991, 0xffd8e8257706d5e9, 0xc7d3dc273c62f06b, 0xa64b30c777e72126, 0xced55f983be1fa0b, 0xfb5c929db1070fcc, 0xabf66eb67cfbc49b, 0xd8bb1b7f0f641820, 0x3ee499def13221cb, 0x64bfe64f78dfb0af, 0x2a7613d56e496382, 0xd6f6433fac68c38c, 0xc4c528c7448570b9, 0xa007b99db83219fc, 0xa3917e83dfdccde3, 0x6d1317a8cf46f639, 0xeb596cddbbe828aa, 0x82b7776d3f210340, 0xa3cb9af096fcef0d]
def kBL8 : List (BitVec 64) := [0x7505d2bcb63ae063, 0x2f3eb5a6199ccd83, 0x90c11d934debfe32, 0x54efbf7b564f754d, 0x6b03103b25e7b8e2, 0xfcae515d4bb47926, 0xc4fb8a62793f1130, 0xdcab18687d91a95c, 0x5fcddda8dd4638de, 0x5d4979c030e9ba52, 0xecb5072bb5be2bf0, 0x9508db6072ceb0b9, 0x7a78132d37431b3f, 0xd32220799af74d60, 0x970567c004f0f44, 0x70f9745b118235ce, 0x583fb5b3b0e26da6, 0x89cbacf6c77c48fa, 0x6a7b3d48ca0453a6, 0xd1f94855834041af, 0x4b0005acda3ea6ef, 0x589d446e902da03e, 0x9f1fecbe5b032a9f, 0x74df3a67faa12071, 0x9a7b09ba9a60bb86]
def kBL9 : List (BitVec 64) := [0xf540a6642f568628, 0xb6c4dd890c322543, 0xb3f72b425e88727e, 0x34abb01458083d28, 0x2b1d6691e2c29005, 0x59463e4a79c10911, 0x23e02ac8bcc06299, 0xab1e9b9fc494754b, 0x1253e9ee852370ef, 0xaf264ef921408f84, 0x6cb9ba55c53d68ea, 0x73e48c67623b2361, 0x2a2aa151943f2505, 0xb2c6b8a01251c3cc, 0xc7dac8ea68198c98, 0xae1c264f43b647f7, 0x384e85574800f524, 0x68b0a31f135c16a8, 0x1942dff35712fc68, 0xfebdb02025793ce1, 0x5eed20f803af6e79, 0xe14b767bc12e631c, 0x14c7b4318d4ab41b, 0xd23efb135090a83, 0xbfda6cbb64b7768d]
def kBL10 : List (BitVec 64) := [0xd96f9a6bf687fadb, 0xa69c69fd20141fa5, 0x803eb28ea0ced42a, 0xac0371d8d262774d, 0x7f9ebb286485d366, 0xd9ed627457eb3c68, 0x65c9f44fad65ad6e, 0xad94b384853e8448, 0x57c7b29913ebdf7b, 0x37527c3f98934fe, 0x55447ec3fc77a9b8, 0x52c493d58558077, 0x6378c7334bd2f90c, 0x7a28212fc80deb2e, 0x3bfd79e548208dc5, 0x8d428be7755e3cf9, 0x1b3571a44f424f6, 0xa0d328c6afb07f63, 0x4192291e54fb4b25, 0xaaf7cf9120d0973a, 0x2fb3404e57e37d5f, 0x136ffd6f9df45ead, 0x2eb4175b456204b0, 0x5af509b03635c87e, 0x71b9ca4963da33bd]
def kBL11 : List (BitVec 64) := [0xf5fde34ff9a965ce, 0x1f09f9d0b20ff2, 0x1d8b11217bea0d9e, 0xea9a8ac8d5f7964a, 0x269afdc72faf5967, 0x178cf48555c8f0f5, 0x8bd2d80ef3473b13, 0xab3ce0b92158ce3, 0x73e92cfdb924c253, 0xf1f2d5feb9dd7098, 0xe5c0efcaa0a378c7, 0x1b84a52371d928df, 0x29e1254844241033, 0x92973236f28d22bc, 0x7da17621ca786895, 0x540c1a53f053df98, 0xb0540dde5c76d55d, 0xd5fcc58968308dca, 0xe8da30c29bc0f7a8, 0xfef0d4bdb63aa8e2, 0x9a6b1c5f9a9f83b4, 0x591070956970a358, 0x87006aa882d2b3e7, 0x68e5cb40b13d09e4, 0xb559eccfee8f7da5]
def kBL12 : List (BitVec 64) := [0xa4991401a45487df, 0x8de07960e8c80416, 0x9e1bdf3ab22d8a58, 0xab8a2dd0048c361, 0xd695ec28ad332b69, 0x683bd1d56606b596, 0x24753631b4248a44, 0x2de2d775c2d4ade7, 0x67c174282f6a96b5, 0xfb7371ae089ff141, 0x627f28ee71dfe4ce, 0x860005639a3ec879, 0x6351d65a03c4e156, 0x85459eeaf4426b6e, 0xa42d44d2019e2654, 0xf37c2997e9e04352, 0x7a331be82768449a, 0x3782a63697f10624, 0xabb23eafd3115dd3, 0xdcc50232d1f76787, 0xdecd594f17e191c4, 0xa5d08656b177b306, 0x6141fec2ebd3ed51, 0xedf3a70fb59ec2f1, 0x312166ea42f111b]
def kBL13 : List (BitVec 64) := [0x82e072535131afdd, 0x2637b3bcfa812a79, 0x49e86eceb1d4baf, 0x4b87ed6d61f57814, 0xd213e81a04683ac4, 0xdae83ec3d25ee9e4, 0xfe56ee849fac39e8, 0x1cfbd6b625704b6e, 0x41367000d37f869b, 0xdcab514235b937e3, 0x20a6c28572bc9178, 0x1aa0a8eb7117c810, 0xb8a486a6847faf84, 0x616a0977161e2a78, 0xb635bf7be02ee8f0, 0x145e2a3481a5c814, 0x665711cc24ab35d0, 0xead02eac3755545e, 0xf97ada75fab1c587, 0xcee66032931360bb, 0xce49cf066d9dab7, 0x77b6c1bd7641db77, 0x3c6fb6d6c5d7e41b, 0x275418ab7edf4134, 0xd9ae18df8317b0f8]
def kBL14 : List (BitVec 64) := [0xcab41fd90d2a9097, 0x182885dfe13f9e47, 0x1bf7190bfa704e0a, 0x2dd93ea730fac1cd, 0xfbeec38e7a4b249e, 0x6cb508f2e72355ef, 0xf283c4c8c6ba9f03, 0x490f1af1ff62131b, 0xfcef4d57b0a319a5, 0x92d626d39846ec36, 0x85b67c75189dae23, 0x2f52a30a811db2e2, 0x5cf25abca3913970, 0x6b51505f9cbe998a, 0xada92902909a05ce, 0xe06af30865313c3b, 0xb31863fdb6e0959d, 0x2c387cd970cada69, 0xb3035738e5c2ef47, 0x1d1fa07ea28539b5, 0xab9c9bb1cb067586, 0x6112637b8fc77df0, 0xc5c9b9e5b54c8cb2, 0xff2b980a0e39081b, 0xbd59f1c443c88a2e]
def kBL15 : List (BitVec 64) := [0x81f27727018e9b65, 0x3d890f135f0ebdaf, 0xbffff43c690ce291, 0x90342a6f217bf3e6, 0x3aacc334c42682e4, 0x4374b4d5d1b8e3d3, 0xd24da340be5f8435, 0xf1a51575914b2806, 0x5a41c2358b3d4d18, 0x1fddf1489cda536c, 0x3a0d7714f3a7b32a, 0x9a837523f251af7c, 0xd0348cafb4af0b6f, 0xa07b4cfcdbd2f633, 0x8d4d9ee9fbb7caf7, 0xeba0aa13e569dd65, 0x99e548c25c7f2b8c, 0xca211b774ad5c666, 0x839c00a622cefaaa, 0x4b883f7fa35e8ac7, 0x3834caaa62fcb6ab, 0x7961fce7766c9c7b, 0x70621ee5f2c960e3, 0xbcc295c1712a3b3, 0x585874f544bae0cf]
def kBL16 : List (BitVec 64) := [0xd1de6e9862873832, 0xa3289b952a7f622f, 0x600aae3a5fbfe223, 0xdc13a40ff41a0d25, 0x7a64033e6417bc04, 0x44cf4369440808f2, 0x623d83e021403bcf, 0x5739552f29154fbc, 0x79688d124d9a82b2, 0x6e1385b129abff46, 0xf49c47ad6420b65b, 0xb6caaa002e120f82, 0x7929b1b743c31fd5, 0xc89a9aa73fdab1fb, 0xde3df1d605f4a8db, 0xb681681e62712ed7, 0xd514217c31809a06, 0x18d656fae307e3e7, 0x284e7bbbc27b0abf, 0x604438ee07e2282e, 0xc1e961f8f6277c11, 0x4594fad13ed90360, 0xd34e429cfc5d0733, 0xd2fc6247850f7da5, 0x6c977b46e7dbc8a8]
def kBL17 : List (BitVec 64) := [0x53e889db963d3864, 0x75ace7b4865d22bd, 0x5e198706047e375d, 0xcbf79c5157c297ed, 0xa19f14e5cb99379a, 0xed35b4dc480a2b73, 0x90048f7bd2858cae, 0xe6cf0185c5c73377, 0x74c4e91efaa9c643, 0x43568cd88a2bebd7, 0x7d128a0de1407687, 0x6d0fd6a9450d37e7, 0x22a35763596507b, 0xb8475c6b6e09f25f, 0x9aac3e5faa1ba65a, 0x4c96525c77566354, 0x990efb41048e2298, 0xadd882f215231c84, 0x5dd3b73dd90749d7, 0x85d3c055e877deb6, 0x3e78a779bda1bde6, 0x4aebec10178b28e8, 0xb4249b30e24f32b4, 0x595fa72c41fab8cf, 0x6054db8af303e800]
def kBL18 : List (BitVec 64) := [0x3b8e6e8ce5210f4e, 0x3032e373511b00d4, 0xd2a96ad6e6725c30, 0xae2019dd5ef8f148, 0x9d8880957bb9a06b, 0x7bdbb3ecf573e5e1, 0x1727aa59abb23842, 0xe3bbeef883b4c97e, 0x8fee1a8588a31ab0, 0x5d32c01da8742a9e, 0x4510a3c81ab6dfa9, 0xbf12a9440bfb528a, 0x4d99e005ea454103, 0x6c6dffd04b789064, 0xb8cf3763597d543b, 0x53db9ac9bec1274c, 0xd7b05d8af52cd06e, 0x7e03a8c84d621922, 0x3ecff0ef036954b1, 0x69e59f52218793e8, 0x82abac776e2592cf, 0xa4e6801e49362d12, 0xe1ef7a7d9b451aaf, 0x5491ecdf8f3b1f44, 0xc77be9cf933db436]
def kBL19 : List (BitVec 64) := [0x77469b0e47ba1895, 0x3374305bfafd3fef, 0x59e70bd8d9b56c1c, 0x8a244b022ca4c74c, 0xa666edc2f910361b, 0xd53a975ede295b5a, 0x9da1c0e9b1d93a57, 0x2ace6a0371e1afe1, 0xe8b955a94f1411d4, 0xa028f0dfdf59dda2, 0x45108ff278e45726, 0xf66ed83ff22db171, 0x4dd5a3120a1db99e, 0x76ef4b869726dec6, 0xdb9322f01371ab9a, 0x86c6d4000842d792, 0x768323638f24d3a5, 0xa72b99924150b89d, 0xa8c55de4375818d4, 0xdd1b035f1c8a8a5f, 0x9b92e59fa6555880, 0x19a1bdf37a108d1f, 0x4ea028cb2c1ff33c, 0xb0615ba007c2b498, 0xf8129e90d87c8945]
def kBL20 : List (BitVec 64) := [0xe07d161eaa8f2f30, 0x5a03acd7917e5707, 0xe09ecbb70796e671, 0xc6a26d47c4b64c2f, 0x7662682d17f8502c, 0xf331e11fd045a0cf, 0x7c89394ec03460fd, 0xffba8c509b8e07ea, 0x157a2445ec076e09, 0x60dabf409937621d, 0x4e65821cd9838d5a, 0x26deb769705af584, 0xa57c4b53d6c46328, 0xfd748c4a051a3407, 0x9e850ee21d3c5155, 0xf2ee9a6f2d62456, 0x7d468a662594d46e, 0xcb2431c9752e268a, 0xc0a602b98fb1425b, 0x5956bf3c782ac82a, 0x11ec8ac5076e4336, 0x1267b3937e05c710, 0xcf431e0d37cb34a0, 0x26a09e63403012d1, 0x17dc928e95e051c4]
def kBL21 : List (BitVec 64) := [0xf19b9ee388b7643b, 0x5444b115d6796cf2, 0x806bfa50ea1a9b60, 0xf66fbf45fa7a5f4b, 0x3bb8169af1315e69, 0xc20dc29a3b532ee6, 0xe0fc67fe99d3fa0c, 0x95ee57df15ee6f9e, 0xc310884075032e02, 0xc6cc7ba171a31d16, 0x4a0f5831aef0276c, 0x4cc14e1db697ec50, 0x80e281e31b2c6c4f, 0xe2ef9ab4634d0a34, 0x70a35583ef6eec5, 0x12c1de6929cd388a, 0x779fa57a2be82007, 0x3e9eccdb2255a810, 0xce34e355bd261a0a, 0xf82bf043ffb67872, 0xbfc3f2edb6612ea1, 0x42029571a5ce0657, 0x5d6c3e78fcb5cb21, 0xd8dde8efea17c2f2, 0xf7db8926e3920f9c]
def kBL22 : List (BitVec 64) := [0x5f486c74e4c18f12, 0xb7295c14cb78f1df, 0xeeb8d26ef9a94891, 0x72a89beca47a77bd, 0x3f8c06f9dde1e784, 0x580d330d2aae6439, 0xd6ae74e4786ff1bc, 0xa00d347d0d828633, 0x4d9389c1c60f5b84, 0x17fb732cff4321a, 0x9bfb6804410304da, 0xbe68dc04ff9d1866, 0xe47bc0960ffdc80e, 0xb7afd1c3826c4250, 0x2c436d1c0abf5c36, 0xc7530957f39fb698, 0x6244545844dbb667, 0x8ca879555d872bdc, 0x9422b1a01bf9a9c4, 0xebc180dc29b4aeea, 0x33cf359b18228065, 0xa3cd08c24c19d7bb, 0xc9953ab3e2e36470, 0x67a141dbbf9daacf, 0x6ae8488d0d1b7621]
def kBL23 : List (BitVec 64) := [0xa04ca04fc072abc0, 0x2b0f761eeb583138, 0x39429870b26af61a, 0x99e4e026506b91fe, 0xd0bdb621c15fe072, 0xb8a5699683138d68, 0x66d03aaec40a67ed, 0x856bc6f949ff3899, 0xc6295bf11881703d, 0xa06bbc96b1c21a6c, 0x49da1bc56f6de18d, 0x93feccd40c084bd2, 0x1c7f390bae7cbf16, 0x927d23a62f7895c0, 0xd72276ec8ad2787f, 0x62c0798774ee7116, 0xa8b46e1d31b76729, 0xb0d2ec4d91cea927, 0x2908515884446a60, 0x89936605b5922128, 0x91bd014b85465ee0, 0x25eab9f2d1e751d4, 0xf0c6824508049593, 0x15b093d807de92ad, 0x70658ef6d48b73c0]
def kBL24 : List (BitVec 64) := [0xe49896d85bf9a994, 0x81538051e01218da, 0x3c6bafca875b4d3b, 0x68ffc0509e7ea56f, 0xa12ee2f3abace17e, 0x5bbf541f5d701c0b, 0x1ee8d0383ad157e1, 0x813107d3b17bc7f1, 0xf03d6a9786e3068b, 0xac7584258062b71e, 0x692957141be8c752, 0x5493558a962beb5, 0x1239cce2c39dd006, 0x1660ca4eca7c436c, 0xebd24053c6779d89, 0x9c34b1cb73494c8f, 0xe312291c40952283, 0xc99d77b6aab85be4, 0x87a2cd2215a0055f, 0xff49f7a70769726e, 0xaa99d68664d0a93f, 0x17216339b571275f, 0xcd928bfb5bac536a, 0x3be7893456cc00dd, 0x19c421e7c1358bd1]
theorem kBR0 : ∀ j : Nat, j < 25 → rnd 0 (lk kBL0) j = lk kBL1 j := by decide +kernel
theorem kBR1 : ∀ j : Nat, j < 25 → rnd 1 (lk kBL1) j = lk kBL2 j := by decide +kernel
theorem kBR2 : ∀ j : Nat, j < 25 → rnd 2 (lk kBL2) j = lk kBL3 j := by decide +kernel
theorem kBR3 : ∀ j : Nat, j < 25 → rnd 3 (lk kBL3) j = lk kBL4 j := by decide +kernel
theorem kBR4 : ∀ j : Nat, j < 25 → rnd 4 (lk kBL4) j = lk kBL5 j := by decide +kernel
theorem kBR5 : ∀ j : Nat, j < 25 → rnd 5 (lk kBL5) j = lk kBL6 j := by decide +kernel
theorem kBR6 : ∀ j : Nat, j < 25 → rnd 6 (lk kBL6) j = lk kBL7 j := by decide +kernel
theorem kBR7 : ∀ j : Nat, j < 25 → rnd 7 (lk kBL7) j = lk kBL8 j := by decide +kernel
theorem kBR8 : ∀ j : Nat, j < 25 → rnd 8 (lk kBL8) j = lk kBL9 j := by decide +kernel
theorem kBR9 : ∀ j : Nat, j < 25 → rnd 9 (lk kBL9) j = lk kBL10 j := by decide +kernel
theorem kBR10 : ∀ j : Nat, j < 25 → rnd 10 (lk kBL10) j = lk kBL11 j := by decide +kernel
theorem kBR11 : ∀ j : Nat, j < 25 → rnd 11 (lk kBL11) j = lk kBL12 j := by decide +kernel
theorem kBR12 : ∀ j : Nat, j < 25 → rnd 12 (lk kBL12) j = lk kBL13 j := by decide +kernel
theorem kBR13 : ∀ j : Nat, j < 25 → rnd 13 (lk kBL13) j = lk kBL14 j := by decide +kernel
theorem kBR14 : ∀ j : Nat, j < 25 → rnd 14 (lk kBL14) j = lk kBL15 j := by decide +kernel
theorem kBR15 : ∀ j : Nat, j < 25 → rnd 15 (lk kBL15) j = lk kBL16 j := by decide +kernel
theorem kBR16 : ∀ j : Nat, j < 25 → rnd 16 (lk kBL16) j = lk kBL17 j := by decide +kernel
theorem kBR17 : ∀ j : Nat, j < 25 → rnd 17 (lk kBL17) j = lk kBL18 j := by decide +kernel
theorem kBR18 : ∀ j : Nat, j < 25 → rnd 18 (lk kBL18) j = lk kBL19 j := by decide +kernel
theorem kBR19 : ∀ j : Nat, j < 25 → rnd 19 (lk kBL19) j = lk kBL20 j := by decide +kernel
theorem kBR20 : ∀ j : Nat, j < 25 → rnd 20 (lk kBL20) j = lk kBL21 j := by decide +kernel
theorem kBR21 : ∀ j : Nat, j < 25 → rnd 21 (lk kBL21) j = lk kBL22 j := by decide +kernel
theorem kBR22 : ∀ j : Nat, j < 25 → rnd 22 (lk kBL22) j = lk kBL23 j := by decide +kernel
theorem kBR23 : ∀ j : Nat, j < 25 → rnd 23 (lk kBL23) j = lk kBL24 j := by decide +kernel
theorem kBS0 : ∀ j : Nat, j < 25 → rnds 0 (xorB zeroS (padB kBm)) j = lk kBL0 j := by decide +kernel
theorem kBS1 : ∀ j : Nat, j < 25 → rnds 1 (xorB zeroS (padB kBm)) j = lk kBL1 j := fun j hj => (rnd_congr 0 kBS0 j hj).trans (kBR0 j hj)
theorem kBS2 : ∀ j : Nat, j < 25 → rnds 2 (xorB zeroS (padB kBm)) j = lk kBL2 j := fun j hj => (rnd_congr 1 kBS1 j hj).trans (kBR1 j hj)
theorem kBS3 : ∀ j : Nat, j < 25 → rnds 3 (xorB zeroS (padB kBm)) j = lk kBL3 j := fun j hj => (rnd_congr 2 kBS2 j hj).trans (kBR2 j hj)
theorem kBS4 : ∀ j : Nat, j < 25 → rnds 4 (xorB zeroS (padB kBm)) j = lk kBL4 j := fun j hj => (rnd_congr 3 kBS3 j hj).trans (kBR3 j hj)
theorem kBS5 : ∀ j : Nat, j < 25 → rnds 5 (xorB zeroS (padB kBm)) j = lk kBL5 j := fun j hj => (rnd_congr 4 kBS4 j hj).trans (kBR4 j hj)
theorem kBS6 : ∀ j : Nat, j < 25 → rnds 6 (xorB zeroS (padB kBm)) j = lk kBL6 j := fun j hj => (rnd_congr 5 kBS5 j hj).trans (kBR5 j hj)
theorem kBS7 : ∀ j : Nat, j < 25 → rnds 7 (xorB zeroS (padB kBm)) j = lk kBL7 j := fun j hj => (rnd_congr 6 kBS6 j hj).trans (kBR6 j hj)
theorem kBS8 : ∀ j : Nat, j < 25 → rnds 8 (xorB zeroS (padB kBm)) j = lk kBL8 j := fun j hj => (rnd_congr 7 kBS7 j hj).trans (kBR7 j hj)
theorem kBS9 : ∀ j : Nat, j < 25 → rnds 9 (xorB zeroS (padB kBm)) j = lk kBL9 j := fun j hj => (rnd_congr 8 kBS8 j hj).trans (kBR8 j hj)
theorem kBS10 : ∀ j : Nat, j < 25 → rnds 10 (xorB zeroS (padB kBm)) j = lk kBL10 j := fun j hj => (rnd_congr 9 kBS9 j hj).trans (kBR9 j hj)
theorem kBS11 : ∀ j : Nat, j < 25 → rnds 11 (xorB zeroS (padB kBm)) j = lk kBL11 j := fun j hj => (rnd_congr 10 kBS10 j hj).trans (kBR10 j hj)
theorem kBS12 : ∀ j : Nat, j < 25 → rnds 12 (xorB zeroS (padB kBm)) j = lk kBL12 j := fun j hj => (rnd_congr 11 kBS11 j hj).trans (kBR11 j hj)
theorem kBS13 : ∀ j : Nat, j < 25 → rnds 13 (xorB zeroS (padB kBm)) j = lk kBL13 j := fun j hj => (rnd_congr 12 kBS12 j hj).trans (kBR12 j hj)
theorem kBS14 : ∀ j : Nat, j < 25 → rnds 14 (xorB zeroS (padB kBm)) j = lk kBL14 j := fun j hj => (rnd_congr 13 kBS13 j hj).trans (kBR13 j hj)
theorem kBS15 : ∀ j : Nat, j < 25 → rnds 15 (xorB zeroS (padB kBm)) j = lk kBL15 j := fun j hj => (rnd_congr 14 kBS14 j hj).trans (kBR14 j hj)
theorem kBS16 : ∀ j : Nat, j < 25 → rnds 16 (xorB zeroS (padB kBm)) j = lk kBL16 j := fun j hj => (rnd_congr 15 kBS15 j hj).trans (kBR15 j hj)
theorem kBS17 : ∀ j : Nat, j < 25 → rnds 17 (xorB zeroS (padB kBm)) j = lk kBL17 j := fun j hj => (rnd_congr 16 kBS16 j hj).trans (kBR16 j hj)
theorem kBS18 : ∀ j : Nat, j < 25 → rnds 18 (xorB zeroS (padB kBm)) j = lk kBL18 j := fun j hj => (rnd_congr 17 kBS17 j hj).trans (kBR17 j hj)
theorem kBS19 : ∀ j : Nat, j < 25 → rnds 19 (xorB zeroS (padB kBm)) j = lk kBL19 j := fun j hj => (rnd_congr 18 kBS18 j hj).trans (kBR18 j hj)
theorem kBS20 : ∀ j : Nat, j < 25 → rnds 20 (xorB zeroS (padB kBm)) j = lk kBL20 j := fun j hj => (rnd_congr 19 kBS19 j hj).trans (kBR19 j hj)
theorem kBS21 : ∀ j : Nat, j < 25 → rnds 21 (xorB zeroS (padB kBm)) j = lk kBL21 j := fun j hj => (rnd_congr 20 kBS20 j hj).trans (kBR20 j hj)
theorem kBS22 : ∀ j : Nat, j < 25 → rnds 22 (xorB zeroS (padB kBm)) j = lk kBL22 j := fun j hj => (rnd_congr 21 kBS21 j hj).trans (kBR21 j hj)
theorem kBS23 : ∀ j : Nat, j < 25 → rnds 23 (xorB zeroS (padB kBm)) j = lk kBL23 j := fun j hj => (rnd_congr 22 kBS22 j hj).trans (kBR22 j hj)
theorem kBS24 : ∀ j : Nat, j < 25 → rnds 24 (xorB zeroS (padB kBm)) j = lk kBL24 j := fun j hj => (rnd_congr 23 kBS23 j hj).trans (kBR23 j hj)
theorem kB_last (j : Nat) (h : j < 25) : lastS kBm j = lk kBL24 j := kBS24 j h
theorem kB_sum : sumOf kBm = kBh := by
  have e : sumOf kBm = (List.range 32).map (outAt (lk kBL24)) := by
    unfold sumOf
    refine List.map_congr_left (fun i hi => ?_)
    have hi := List.mem_range.1 hi
    simp only [outAt, kB_last (i / 8) (by omega)]
  rw [e]; decide +kernel
def kCm : List UInt8 := [248, 64, 128, 128, 128, 128, 160, 148, 169, 249, 91, 216, 150, 152, 228, 218, 24, 18, 224, 81, 128, 83, 129, 59, 77, 91, 135, 202, 175, 107, 60, 111, 165, 126, 158, 80, 192, 255, 104, 128, 128, 128, 207, 133, 32, 111, 114, 115, 101, 136, 115, 116, 97, 108, 108, 105, 111, 110, 128, 128, 128, 128, 128, 128, 128, 128]
def kCh : List UInt8 := [189, 62, 229, 7, 230, 198, 124, 254, 252, 169, 143, 132, 190, 71, 193, 187, 192, 9, 49, 95, 171, 196, 64, 93, 180, 186, 50, 25, 3, 116, 87, 42]
def kCL0 : List (BitVec 64) := [0x94a08080808040f8, 0xdae49896d85bf9a9, 0x3b81538051e01218, 0x6f3c6bafca875b4d, 0x8068ffc0509e7ea5, 0x73726f2085cf8080, 0x696c6c6174738865, 0x8080808080806e6f, 0x18080, 0x0, 0x0, 0x0, 0x0, 0x0, 0x0, 0x0, 0x8000000000000000, 0x0, 0x0, 0x0, 0x0, 0x0, 0x0, 0x0, 0x0]
def kCL1 : List (BitVec 64) := [0x57e906cb894f9d04, 0x5b03271bf4de373b, 0x43034769d15541eb, 0x82ce0d39af97afc4, 0xe53dd90604df281c, 0xcaad0dcf597a2416, 0x8aee43979aca1d8b, 0x2364b53d407461e5, 0xc5135bb8317e70c1, 0xd9ee0465a5a4b143, 0x96ab936eefbc227c, 0xc53c8cee696212fb, 0x40e8b9381dd3211d, 0x1ff76f8492533eb8, 0x10bc6b3a74b591e7, 0x79a23d2af547c45e, 0xc0c1c3d983beb040, 0x690d46b23cb25646, 0x51d03592aa2cf4a0, 0xbcaa12fd80c04c21, 0xb53c4a4a16f32473, 0x4f4f8998f21c2691, 0x4ee89a5040cad7ae, 0x2da223c6f22d4b10, 0xd048692de34e8de]
def kCL2 : List (BitVec 64) := [0x751b6833fdd928f5, 0x6052f65128b82b72, 0x9848e8007a3dc6f0, 0xee2bfa673545e30c, 0xdf9508b950352be7, 0x83dafdf4a8ae5cd, 0x434497593c9672dd, 0xec0fe4265afa9054, 0xfd48a20da87bb29a, 0x81a0fcdaa7f808b7, 0xe966ded19baebd1d, 0x33d0cf07f43c597a, 0x6ee1194ecc466f70, 0x14e5b774820c2903, 0xb279e0a530143968, 0x1662551592fd3142, 0xe29546ce1f74feb2, 0x4133ef212cb5bab0, 0x4e59458cb00b7c31, 0x8c8c48b228165822, 0xc43b2ce301b9ebd2, 0xda9eb4e495d940f7, 0x299990c7078c7fdc, 0x4c785165bb9a316f, 0x169f73b10937096]
def kCL3 : List (BitVec 64) := [0xd8ea4b5dda6eebeb, 0xe0318f00f0033047, 0xfd956ceb59942e4d, 0x7799005aa1cde58f, 0x91475ad0c40d72bb, 0xe0c67b8bc9f858e5, 0x7eac42949360832d, 0x8aef69c48ce32586, 0xb52af898db124dd3, 0x4a6be765888e3643, 0x8c82872f37ead06b, 0xf3533944c0e1d6b2, 0x2dfe354956882536, 0x1954d347e638a24a, 0x9cc9d62ad1ead4b0, 0x8cbe6b5a62b033d7, 0xa88e96b7a73accbe, 0x863475a902a74e7, 0xa2773fb435eb304e, 0xcdfda36cf4c95688, 0xccfa74e23e5446d5, 0x81f7138f0ec8bcc5, 0xa02ce41fe22d2e25, 0xb07f4c7ce8bd2145, 0xf3780fc7944cf5c9]
def kCL4 : List (BitVec 64) := [0xf8c04eb91042add8, 0x8811dedd5c9d2180, 0x503577c78f236eac, 0x77e39fec4f144c80, 0x6d119777c0ff4d0, 0xefac174c15971f0, 0xf8b341d019168396, 0x4ccd3edf7b578116, 0x46428c6c610e37ca, 0x5ee9a42db56165b9, 0xf8c8126c54e5a4b7, 0xa589af857c00c5f6, 0x1bc86d41fc3a1c8c, 0x652ba148ccf656c3, 0x413970e05268f0d1, 0x4b3d63656da9e398, 0x4e440e310798b2f7, 0x927d782f30e2bbba, 0xd0100eb662b68d05, 0x6cf07dd136e68951, 0x4a1e0a6a64a6e1e5, 0xb75c90d3e9789428, 0xb7d9f7586fef70d0, 0x70c239b940bffd16, 0xf76ae636dfc9137c]
def kCL5 : List (BitVec 64) := [0xe51c70eb8cf850f8, 0x38d6cb24b628f1b7, 0x9d9537c9f6c52470, 0x244e70c80e6ba652, 0x7a2b8ab79ccaa4a0, 0x9f40493f7580b346, 0x6d63e6ff4b735530, 0x19ca8d6462f77ba3, 0x7695a0bfc59c6c39, 0x4e5dec172d529173, 0x2dcbf96efdd547f8, 0x10e6cc47fcbecba0, 0xb8756d33689f5345, 0x8f4153f77ce51bb2, 0x11aee7e76030c38a, 0x693d1ea4e87b5393, 0xf0a0a3bd60acb783, 0xc5279d67d21d37bd, 0xe2cd31e1f2d07bf2, 0xf317e1272df70372, 0x421f318b7669528, 0x56a050677eb8cd5e, 0xe52c4f514d221dcc, 0xac19d32b10935f42, 0xac00c8c26437739f]
def kCL6 : List (BitVec 64) := [0x5136bdc0fa97ff38, 0xf73426f8a60afd7e, 0x7102626c45ad1e7c, 0xe080ee2e24918345, 0x1a6123bb14cb12d0, 0xddd180dd1c2a57c2, 0x6718e2773e0aaa5e, 0x291bcbb29dfd5594, 0x42d49640b06c7d85, 0x841005d27d0e9c41, 0x4037daa447f56100, 0x4ad74c3a6d5323a6, 0x845f4e505b49fe2e, 0x4ffdf98bd26afd1d, 0xfd9866a149a6e396, 0x14ffd92115e191cf, 0x20f3525576d45129, 0x76ad4180a9939c48, 0x2468eb87fcea0dff, 0xed4587d5e45f9064, 0x56a6b1c702c1e696, 0x384bb4fa294a6bbd, 0x10f9d4befbfcd9e1, 0xe5ef84aaf96162dd, 0xd8ecdcffa1b98094]
def kCL7 : List (BitVec 64) := [0x3fc6a374de2df7e, 0xe372ebdb98849ee8, 0xe24c31ef2fe7f39d, 0x5eac8ac205465bdf, 0x37202255344fba74, 0x26661b0f6f252eb5, 0x7a373c789f923a95, 0x79caf3fa7b40715, 0x2348ab43820d6e7e, 0xe94dc8d60a7b798b, 0x25b2b84c5d9d0755, 0xc1398c2ec0319ea8, 0x7f9064dd35a0de78, 0x7b45b24ef28c9ad8, 0x180ccd581f3289a9, 0x495820fc49d9ecdf, 0xd25e2310f57464ba, 0xec6a2ca783d663e1, 0xd80d42a904ca94cf, 0xdef03cc16ec70d49, 0xf16207fdadc4164, 0xca2a0be1ba618c73, 0x36e25776d7cb7837, 0xcca43fe57a7fcc2b, 0xbb37810f73ddf1c]
def kCL8 : List (BitVec 64) := [0xbfcedfc4a56f7616, 0x103ec0febec1aa21, 0xbe56f0d00c551806, 0xbc937d723dbed220, 0x816e09246db2ed5d, 0x1dd57123dba28fa4, 0x1017997390cd7881, 0xb444f0ff2821dbd5, 0x7a3a623b4fabdd0e, 0x6877f5718d66f8a9, 0x479f651aee3e5c21, 0xd040d9c6538a80d8, 0x8ce577370409f379, 0x7c4baf97014d9140, 0x3671d951e5bef04a, 0xcf249cc997d92aea, 0xbba724eb70292fec, 0x3399a386ca1f2cdf, 0x57a9905be6ec609, 0x3b6b085a6ce2adc9, 0xb1d17ae44c9c21ee, 0x2fa322c2d40f08b7, 0x493239496658da4e, 0x4121a8f5bd0e3c44, 0x395586ac168bd879]
def kCL9 : List (BitVec 64) := [0xe013907160240d1a, 0xc12f157df690fc30, 0x5b70ddbc678d45ed, 0xe9acae444c87178, 0x92acbb7b2e8dbc63, 0x14f823016e071d7c, 0xbed72938f24886f7, 0x8e9215cb12483bc8, 0x4159bb4dfe54a46d, 0xb5031792fba90e67, 0xef8eada95a2141aa, 0x668d24454fd92d93, 0xfeae39a847e642b, 0xb072b8892790c573, 0x675f13394ac33d32, 0x54f79ea3a8492c13, 0xed5f47224dd86440, 0x40bd6411208ad056, 0x878c5747c0dd4946, 0x480f9056c34b729a, 0xe0329f289c604dd8, 0x941f21ec4668db2b, 0x74eab1bd1801eec9, 0xb4f1483cd236bcb7, 0x25a332321f2e2b58]
def kCL10 : List (BitVec 64) := [0xd25b37b93c405c0, 0x723d3cd48acef122, 0xb01bdf95d99f1e51, 0x44d5fd4007a36f62, 0xc46b58a3e79abd8b, 0xd1aff3845ba7c1fc, 0x94f7d248af6e2e0d, 0x5c2203c4e63b109, 0xa3ab8048079e77b6, 0x17f8cc702cbfd1b8, 0x6423ef5019be02cb, 0x4c994d97a770361d, 0x3cd2189911011efb, 0x83182cd4fa4008f3, 0x77917a8669480005, 0x2217a15f991bced8, 0x5e419267ac4d3212, 0x4f1e52f34d4edf63, 0xfa3ddeb8b1a25c00, 0x26008ad11783337, 0x59b303b107991abf, 0xca7bfd3eb0582443, 0x355e5dfe39ff6b28, 0x30e130728ccd4755, 0x1e4bd4f8e0cea83f]
def kCL11 : List (BitVec 64) := [0xcd54393658949c34, 0xc370ca16525f24ca, 0x8bf8ceb67447393f, 0x51389ab0aeab248a, 0xce7bec58a1f82df8, 0xd5ada6cf7d3ccf0e, 0xdf67116fbe3855e6, 0x8c4a3f2bbb700999, 0x504fef7431b7a7f3, 0xc08a0cc0a7a0e0d5, 0xef14a4dc0e13d0c6, 0xb70498dfb08b47f3, 0xf70ff1e2c5021245, 0xcba37990d61ce4ea, 0xb4f1b727ed9a563f, 0xbdf380ac4fce3e4d, 0x2f788a8456171412, 0x8ef3641a98345108, 0x4d062ad51b54df40, 0x82bff8fd5fc8b6be, 0x96c6f953321934e5, 0x941819c678b94628, 0x5a17ab3fbc878919, 0xd7cf1aa74a14fc1a, 0xbe94801466dcf601]
def kCL12 : List (BitVec 64) := [0x6ef025a2dcccca73, 0xf297697081f4ba54, 0xdd8223b12da00f6, 0x45ca0cda5bea2b26, 0xde64f481e80844ca, 0x78984692b79f75b4, 0xd43536f94383d8df, 0x5e8ad201570eb10b, 0xef0451e26ace1b9e, 0xd86af17bb7882ec6, 0x602c23f0313af0a4, 0x10a4e0573c99bda4, 0x38e7f560dcf59d0, 0x3243433b7194eebf, 0xdff5d122d689cb22, 0x59b90bb449d3ba27, 0xf4a4ff8760001644, 0x2cb4466fa82d2c2d, 0x2659662fdf011f53, 0x15bb148866c13aa1, 0x8e6c560723a3659a, 0x1564702f11c56a26, 0x80072d2f2f67d0ac, 0x36781d307e9d71e1, 0x20df36998f3ce005]
def kCL13 : List (BitVec 64) := [0x452985ae226fb7ed, 0x943589c0a77d1ffb, 0xe49f76a8c42bd0d5, 0xd7990719bf6ce40f, 0xd84ccbd9c0537245, 0x54b9ba09f607e1f7, 0x8c133866fdf0ae1c, 0x11fea4e274cc6fa9, 0x70fc71bcb75cb9d1, 0xe0d17b9e04a2bc59, 0x5d4730ac5ebc2336, 0x300b33634d9d422c, 0xa7a5e1a2c2a32b4, 0x62797a53c23babde, 0x857703e32ffdbf, 0xf359caa610afd158, 0xc5c48af4cfb87b7c, 0xa8d6fe5880608da5, 0xdd58e405e78aa45c, 0x5897284526602eb6, 0xfad9a31f062f74b7, 0x33e742196e0a3bb8, 0xdb8d8508950722aa, 0xe35f4e3c573b105e, 0x318e9c36d5eb45cd]
def kCL14 : List (BitVec 64) := [0xc83c92ca9bbfa9f1, 0xee50d58be3f572f, 0xb08ad5aa124d737f, 0xad4893467713ea7e, 0xfe6628ea6992060b, 0xe97453358fbd58eb, 0x1e446a15bdd11653, 0x80e63e02a7f2ed2d, 0x7c465422454d7954, 0x1c76b857aa9a24b4, 0x9bc0209640f3437f, 0x73e95c09e7d328e7, 0x686266e85a983bc6, 0xa043ed6623f63247, 0x71ce29f4afc47791, 0x9a90048e6857cc00, 0x796dd3da924796b4, 0x77e75f0e757dba37, 0x68e5615b515e0477, 0x48a0ee5ec1762977, 0x7f299ccf31fb2937, 0x32ff7d34699aaf16, 0x1e0f1d3b9c2e6e50, 0x3cf7aa78a98ec175, 0xb8c1699bcc2abdd1]
def kCL15 : List (BitVec 64) := [0x7f278f42f4ef4cba, 0x68ecf3054aceb8c4, 0x5d3106d034cc0cf9, 0x86d6817e12ba8fba, 0x1eb2ffd315d6bb3b, 0xf7344bf9c5bc0217, 0xb265950ce57a76e8, 0xe5dceb38bd3dd8ad, 0x54602833b31b127e, 0xefccdd5c6867aa7e, 0x7336d0343f354330, 0x28ea52e80cdf7af9, 0x37cdd70c4bb9b6b2, 0xdddf6e22e8e37fe3, 0xa4959467a3bd0406, 0x9cfea8e60b3bd8fc, 0x1ec3413bb6ec6c1c, 0xc4670c919e759c0e, 0x4c635c50936a0a0d, 0x94cb7e01a1a8fd32, 0x34a16094afca384c, 0xd7c43f7323e2a005, 0x335aa7fdf901002e, 0xbea75516361bc0a, 0xf34a64baa0bc6a89]
def kCL16 : List (BitVec 64) := [0x8a94d2aa473c7ffb, 0xcaa4990663ce1559, 0x333b27ebda1f027f, 0x9cf528bf616b2dfa, 0x88abd226b9bec756, 0xbc7ee4ee986684, 0xef88f602508275d8, 0xac8f09ad471d9295, 0x4f17a6f89fdbce41, 0xff3fe62337fec30c, 0x96fa95d2dd4177c7, 0x1a57537a36f34863, 0x3bb3bd298b02af4b, 0x4f239ddf9e3358b8, 0x2e51324d0e33c81d, 0xbfdd812acb0d7d6a, 0x27a5fb3a1b273ac6, 0x9eb1110c9d912a28, 0x4eba6c4327c42661, 0x7c3534ed4e1a6ec2, 0x34240e2c5c2f071e, 0xb63655e037560d24, 0xedc53c6a4471f9a7, 0xfeb71db0a92ffa7d, 0x5217522f8e62caf1]
def kCL17 : List (BitVec 64) := [0x80c1b56a48b9e8bc, 0x43989d65036cb2ca, 0xf7e3c7c63e4bc7f1, 0xcb6f904b004ce96e, 0x5c4861e5225d4663, 0x42cfd115ec5480eb, 0x8f5982c1d8a9ba2e, 0xe7728c8466b88c86, 0x3e63b3ddee766c8c, 0xb6468dcb2686bf17, 0xe6f0af5e43bea690, 0xd5cfc68b80d0aaec, 0x84238648fd6305c4, 0x6e7b3279c631c7ee, 0x36be6e41c5ec300f, 0xea860467d241ce6b, 0x516b3f56812b860f, 0x7627c70bd6770188, 0xe7bf704bfd9a32c9, 0xabb701728544e9c2, 0xd952d4f40ed6fdd2, 0x57afe745606946d9, 0xe16b0d124d5c8fd5, 0x7446bf69d509a1b1, 0x3d437caddd6b04ff]
def kCL18 : List (BitVec 64) := [0x77165ca4a58d2bd6, 0xad78ebd8ad5d50e0, 0x4e6e9cdf2b46b4d6, 0x972e6216716c1011, 0x6d29abc6d3ad9647, 0x9cef294f5c3b493, 0x4070317bcce14965, 0xf9a082bd6ac53a58, 0x9f5dc837e458def0, 0x3bd69f5f96ff40b8, 0xb00c65ea83df8d54, 0x12483d733936e33, 0x9782709f39d2a994, 0x6fe0cb90dedf465d, 0xedb7859504a29222, 0x3e20d67d5dda656, 0x6b491931174c9a8, 0xa56d7e5e9459b915, 0x1ddef4a0a0db283a, 0xcfe721573bfbcba9, 0xf6c45f500149c1f8, 0xf706aa135a4176d4, 0x6f2d0bc8204b55d9, 0xc5737a68df05c6f, 0x1cf74b614dd8d7ef]
def kCL19 : List (BitVec 64) := [0x60324376e273489b, 0x9977e33b8a0d537, 0x4cc76b35eaa22c6a, 0x379025f85b250cf2, 0x2c0631cdb99a1264, 0x85688e2f1bd13cbf, 0x271be77eb4e6b390, 0x29c3594429c02edf, 0x495f4f0ec79401be, 0x51d7a4da3eb88e98, 0x9936bdd40d974f29, 0x2e943ed96d6d400, 0x18f274d578a83acc, 0x9994b31375fd5faa, 0x4c15297b1de0683, 0x657b1a3ec776b245, 0x617d984aaa8ec2f, 0xbba77c2aff1892bf, 0x7c2b346546460ab2, 0x8d322b5b91a6510c, 0x9bf164155fff4157, 0x4aced0339c06dd52, 0x3562def037026c2e, 0xfa9fd8f164d64bc3, 0x63b28485970ecd98]
def kCL20 : List (BitVec 64) := [0xf64b8cc30e3341ce, 0xbf6fc639938646ff, 0x1ff5c5fe44610afd, 0x3b2bdd39e64f00, 0xe20a4152f38c03df, 0x940cc057f24811a5, 0x4f76e180110adb48, 0x3c3b9d8b2df26abf, 0x1139fc4e9dd3e436, 0x18b20d608093d753, 0xd8a873fb4d7224ff, 0xb97a488690f22a02, 0xa5d92712aaa1f0d, 0x432e4601648aa579, 0x89c0d35d90a3be62, 0x54dfcfc640210d7, 0x7f6afc0529348185, 0xbe1650d70e151b19, 0xe3b6124d5b258c2d, 0xc6a48eed2b63aba0, 0x6e96530655c2337, 0x42ee867ae2eafc6b, 0xbddadc30297b3571, 0xbda7107705a99f59, 0xf93edba9de4c3630]
def kCL21 : List (BitVec 64) := [0x977f6d7f2ae0a2e7, 0x2be562a84e66571f, 0x672883260c33a61e, 0x4d242eeffc4b079a, 0x21d18a347d76f57c, 0x43097506be3a07a4, 0x386480b4f2fa638d, 0xfe0c970b44118939, 0xa996d05a78c40d2d, 0xa2de5d247993d8a2, 0xe525cabc963e0ea3, 0x2febe472b73eb604, 0x7870f41d4427e42f, 0xaf44da552a393230, 0x1ea1263b0afe2f02, 0xec6005a041d9e4ff, 0x79c7569ac28007d0, 0xbf8387a22d787172, 0x5903f5e9d93b6d98, 0x93891f91d04ed220, 0x15dcf593686d76a6, 0x563176973fd2752d, 0x31e58459d429973, 0xa07676c142193733, 0x5e6fb47a7dce644f]
def kCL22 : List (BitVec 64) := [0xde0ff33e24bb52c0, 0x40a662b13fce531d, 0xfe9369ed5def62cf, 0x97ec3e249e6e6bcd, 0x9457833f04001751, 0x92da715d1b251c4f, 0xbd00aa7d9e80383a, 0xb21e63fe4221d3bc, 0x5f4b719e5a7cf876, 0x4eb12c1644cb5598, 0xb3303f22b6106968, 0xf5a22b35322c07f2, 0xda26abc3fa8baa3, 0xe5ddd2114a532ef8, 0x8a9f1848cb628831, 0xda1294a11834ee20, 0x210d6c5367167093, 0x52b1883cd63fac03, 0xf78ac8512aa4068c, 0x585807eed03b0162, 0x4079f2a79c58ed1f, 0xa34a768d0644a628, 0x750fa4976db22fb4, 0x472d65b2642d8a9c, 0x3432aa31b1f12838]
def kCL23 : List (BitVec 64) := [0xf58a0f6fbbb1859e, 0x74ce6153eef61fdd, 0xc9221f549f9a8a68, 0x518eb0491f7422b5, 0x8b7d1aaf9034e2fc, 0x8d3220c3e893c4d1, 0x8d99fd52f2d18c1a, 0x4d28f81dc297a4f7, 0x2d90917eedf60bb4, 0x98971b9434e25de5, 0xd0142f3d9c42ce01, 0xf17f9204604bdd48, 0xb150bfa37f76f7e6, 0x8852a9d350fcd0d, 0x40b0d9698981b2f4, 0xe7792f5dd612b91b, 0x523ca1c43ec9fa41, 0x8eb9643025c59135, 0x486533aeae71c98e, 0xaf590a1eebc20305, 0x8682bd7cc7d6a981, 0xe222688573ba087f, 0x34702966dec90fd8, 0xfcb097f706e9062d, 0x7b8950cc1ce48a2]
def kCL24 : List (BitVec 64) := [0xfe7cc6e607e53ebd, 0xbbc147be848fa9fc, 0x5d40c4ab5f3109c0, 0x2a5774031932bab4, 0xc665b5fc9721141e, 0x929a4a900395bab5, 0x312eebe4bc3c8579, 0x5e9f519fcd099dc4, 0x6157980ae3818861, 0xc1ff575c1a1799ce, 0x467a213115181f63, 0xd8d82ffaee84c4c1, 0x1979ece5840f563, 0xbdadbd0c9b4f09fd, 0xf25284003223f54d, 0xca934787d7fca085, 0x993ffec856079bb9, 0x382b2434c5a6f458, 0xbc5a67cb29611f09, 0x39e8ed0ce3d338f5, 0x183320f5948b3c6c, 0x5ba6be55765919a2, 0xfe90782908a9bda5, 0xc12c4414dfe6b307, 0x93c7df305ed46188]
theorem kCR0 : ∀ j : Nat, j < 25 → rnd 0 (lk kCL0) j = lk kCL1 j := by decide +kernel
theorem kCR1 : ∀ j : Nat, j < 25 → rnd 1 (lk kCL1) j = lk kCL2 j := by decide +kernel
theorem kCR2 : ∀ j : Nat, j < 25 → rnd 2 (lk kCL2) j = lk kCL3 j := by decide +kernel
theorem kCR3 : ∀ j : Nat, j < 25 → rnd 3 (lk kCL3) j = lk kCL4 j := by decide +kernel
theorem kCR4 : ∀ j : Nat, j < 25 → rnd 4 (lk kCL4) j = lk kCL5 j := by decide +kernel
theorem kCR5 : ∀ j : Nat, j < 25 → rnd 5 (lk kCL5) j = lk kCL6 j := by decide +kernel
theorem kCR6 : ∀ j : Nat, j < 25 → rnd 6 (lk kCL6) j = lk kCL7 j := by decide +kernel
theorem kCR7 : ∀ j : Nat, j < 25 → rnd 7 (lk kCL7) j = lk kCL8 j := by decide +kernel
theorem kCR8 : ∀ j : Nat, j < 25 → rnd 8 (lk kCL8) j = lk kCL9 j := by decide +kernel
theorem kCR9 : ∀ j : Nat, j < 25 → rnd 9 (lk kCL9) j = lk kCL10 j := by decide +kernel
theorem kCR10 : ∀ j : Nat, j < 25 → rnd 10 (lk kCL10) j = lk kCL11 j := by decide +kernel
theorem kCR11 : ∀ j : Nat, j < 25 → rnd 11 (lk kCL11) j = lk kCL12 j := by decide +kernel
theorem kCR12 : ∀ j : Nat, j < 25 → rnd 12 (lk kCL12) j = lk kCL13 j := by decide +kernel
theorem kCR13 : ∀ j : Nat, j < 25 → rnd 13 (lk kCL13) j = lk kCL14 j := by decide +kernel
theorem kCR14 : ∀ j : Nat, j < 25 → rnd 14 (lk kCL14) j = lk kCL15 j := by decide +kernel
theorem kCR15 : ∀ j : Nat, j < 25 → rnd 15 (lk kCL15) j = lk kCL16 j := by decide +kernel
theorem kCR16 : ∀ j : Nat, j < 25 → rnd 16 (lk kCL16) j = lk kCL17 j := by decide +kernel
theorem kCR17 : ∀ j : Nat, j < 25 → rnd 17 (lk kCL17) j = lk kCL18 j := by decide +kernel
theorem kCR18 : ∀ j : Nat, j < 25 → rnd 18 (lk kCL18) j = lk kCL19 j := by decide +kernel
theorem kCR19 : ∀ j : Nat, j < 25 → rnd 19 (lk kCL19) j = lk kCL20 j := by decide +kernel
theorem kCR20 : ∀ j : Nat, j < 25 → rnd 20 (lk kCL20) j = lk kCL21 j := by decide +kernel
theorem kCR21 : ∀ j : Nat, j < 25 → rnd 21 (lk kCL21) j = lk kCL22 j := by decide +kernel
theorem kCR22 : ∀ j : Nat, j < 25 → rnd 22 (lk kCL22) j = lk kCL23 j := by decide +kernel
theorem kCR23 : ∀ j : Nat, j < 25 → rnd 23 (lk kCL23) j = lk kCL24 j := by decide +kernel
theorem kCS0 : ∀ j : Nat, j < 25 → rnds 0 (xorB zeroS (padB kCm)) j = lk kCL0 j := by decide +kernel
theorem kCS1 : ∀ j : Nat, j < 25 → rnds 1 (xorB zeroS (padB kCm)) j = lk kCL1 j := fun j hj => (rnd_congr 0 kCS0 j hj).trans (kCR0 j hj)
theorem kCS2 : ∀ j : Nat, j < 25 → rnds 2 (xorB zeroS (padB kCm)) j = lk kCL2 j := fun j hj => (rnd_congr 1 kCS1 j hj).trans (kCR1 j hj)
theorem kCS3 : ∀ j : Nat, j < 25 → rnds 3 (xorB zeroS (padB kCm)) j = lk kCL3 j := fun j hj => (rnd_congr 2 kCS2 j hj).trans (kCR2 j hj)
theorem kCS4 : ∀ j : Nat, j < 25 → rnds 4 (xorB zeroS (padB kCm)) j = lk kCL4 j := fun j hj => (rnd_congr 3 kCS3 j hj).trans (kCR3 j hj)
theorem kCS5 : ∀ j : Nat, j < 25 → rnds 5 (xorB zeroS (padB kCm)) j = lk kCL5 j := fun j hj => (rnd_congr 4 kCS4 j hj).trans (kCR4 j hj)
theorem kCS6 : ∀ j : Nat, j < 25 → rnds 6 (xorB zeroS (padB kCm)) j = lk kCL6 j := fun j hj => (rnd_congr 5 kCS5 j hj).trans (kCR5 j hj)
theorem kCS7 : ∀ j : Nat, j < 25 → rnds 7 (xorB zeroS (padB kCm)) j = lk kCL7 j := fun j hj => (rnd_congr 6 kCS6 j hj).trans (kCR6 j hj)
theorem kCS8 : ∀ j : Nat, j < 25 → rnds 8 (xorB zeroS (padB kCm)) j = lk kCL8 j := fun j hj => (rnd_congr 7 kCS7 j hj).trans (kCR7 j hj)
theorem kCS9 : ∀ j : Nat, j < 25 → rnds 9 (xorB zeroS (padB kCm)) j = lk kCL9 j := fun j hj => (rnd_congr 8 kCS8 j hj).trans (kCR8 j hj)
theorem kCS10 : ∀ j : Nat, j < 25 → rnds 10 (xorB zeroS (padB kCm)) j = lk kCL10 j := fun j hj => (rnd_congr 9 kCS9 j hj).trans (kCR9 j hj)
theorem kCS11 : ∀ j : Nat, j < 25 → rnds 11 (xorB zeroS (padB kCm)) j = lk kCL11 j := fun j hj => (rnd_congr 10 kCS10 j hj).trans (kCR10 j hj)
theorem kCS12 : ∀ j : Nat, j < 25 → rnds 12 (xorB zeroS (padB kCm)) j = lk kCL12 j := fun j hj => (rnd_congr 11 kCS11 j hj).trans (kCR11 j hj)
theorem kCS13 : ∀ j : Nat, j < 25 → rnds 13 (xorB zeroS (padB kCm)) j = lk kCL13 j := fun j hj => (rnd_congr 12 kCS12 j hj).trans (kCR12 j hj)
theorem kCS14 : ∀ j : Nat, j < 25 → rnds 14 (xorB zeroS (padB kCm)) j = lk kCL14 j := fun j hj => (rnd_congr 13 kCS13 j hj).trans (kCR13 j hj)
theorem kCS15 : ∀ j : Nat, j < 25 → rnds 15 (xorB zeroS (padB kCm)) j = lk kCL15 j := fun j hj => (rnd_congr 14 kCS14 j hj).trans (kCR14 j hj)
theorem kCS16 : ∀ j : Nat, j < 25 → rnds 16 (xorB zeroS (padB kCm)) j = lk kCL16 j := fun j hj => (rnd_congr 15 kCS15 j hj).trans (kCR15 j hj)
theorem kCS17 : ∀ j : Nat, j < 25 → rnds 17 (xorB zeroS (padB kCm)) j = lk kCL17 j := fun j hj => (rnd_congr 16 kCS16 j hj).trans (kCR16 j hj)
theorem kCS18 : ∀ j : Nat, j < 25 → rnds 18 (xorB zeroS (padB kCm)) j = lk kCL18 j := fun j hj => (rnd_congr 17 kCS17 j hj).trans (kCR17 j hj)
theorem kCS19 : ∀ j : Nat, j < 25 → rnds 19 (xorB zeroS (padB kCm)) j = lk kCL19 j := fun j hj => (rnd_congr 18 kCS18 j hj).trans (kCR18 j hj)
theorem kCS20 : ∀ j : Nat, j < 25 → rnds 20 (xorB zeroS (padB kCm)) j = lk kCL20 j := fun j hj => (rnd_congr 19 kCS19 j hj).trans (kCR19 j hj)
theorem kCS21 : ∀ j : Nat, j < 25 → rnds 21 (xorB zeroS (padB kCm)) j = lk kCL21 j := fun j hj => (rnd_congr 20 kCS20 j hj).trans (kCR20 j hj)
theorem kCS22 : ∀ j : Nat, j < 25 → rnds 22 (xorB zeroS (padB kCm)) j = lk kCL22 j := fun j hj => (rnd_congr 21 kCS21 j hj).trans (kCR21 j hj)
theorem kCS23 : ∀ j : Nat, j < 25 → rnds 23 (xorB zeroS (padB kCm)) j = lk kCL23 j := fun j hj => (rnd_congr 22 kCS22 j hj).trans (kCR22 j hj)
theorem kCS24 : ∀ j : Nat, j < 25 → rnds 24 (xorB zeroS (padB kCm)) j = lk kCL24 j := fun j hj => (rnd_congr 23 kCS23 j hj).trans (kCR23 j hj)
theorem kC_last (j : Nat) (h : j < 25) : lastS kCm j = lk kCL24 j := kCS24 j h
theorem kC_sum : sumOf kCm = kCh := by
  have e : sumOf kCm = (List.range 32).map (outAt (lk kCL24)) := by
    unfold sumOf
    refine List.map_congr_left (fun i hi => ?_)
    have hi := List.mem_range.1 hi
    simp only [outAt, kC_last (i / 8) (by omega)]
  rw [e]; decide +kernel
def kDm : List UInt8 := [226, 22, 160, 189, 62, 229, 7, 230, 198, 124, 254, 252, 169, 143, 132, 190, 71, 193, 187, 192, 9, 49, 95, 171, 196, 64, 93, 180, 186, 50, 25, 3, 116, 87, 42]
def kDh : List UInt8 := [89, 145, 187, 140, 101, 20, 20, 138, 41, 219, 103, 106, 20, 172, 80, 108, 210, 205, 87, 117, 172, 230, 60, 48, 164, 254, 69, 119, 21, 233, 172, 132]
def kDL0 : List (BitVec 64) := [0xe607e53ebda016e2, 0xbe848fa9fcfe7cc6, 0xab5f3109c0bbc147, 0x31932bab45d40c4, 0x12a5774, 0x0, 0x0, 0x0, 0x0, 0x0, 0x0, 0x0, 0x0, 0x0, 0x0, 0x0, 0x8000000000000000, 0x0, 0x0, 0x0, 0x0, 0x0, 0x0, 0x0, 0x0]
def kDL1 : List (BitVec 64) := [0x9da6daa962729c39, 0x7956d723d8d3d889, 0xb9ebd3c7bd56f4a3, 0x203655c5f1c3e3fc, 0xde71f2c5c3403000, 0x576b28ffbc2566bb, 0x9ef9f5d6e05c7177, 0xed5aa3d744bd6fe2, 0xc2e484b318e1c788, 0x4f020c5bd2900eed, 0xe7f59d3ce137d36, 0x29c2b62511165203, 0x7a82fecffdd64a42, 0x16c8d7ce1d7f009d, 0x5ccf457eaacdf6ac, 0x5c65a9a3a038b506, 0x9c08a587f037fd26, 0x6c9da1e25f1155e6, 0x653eeae0d89f0cdb, 0x2ea119355943af56, 0x6cd876925e23cf42, 0xf69cdf8094e3f3a7, 0xcc148ce36a3c33e1, 0x894592bb161f29f1, 0x51e395bc739e6103]
def kDL2 : List (BitVec 64) := [0x676e306baa2be07f, 0xde30e7fa0cfcefc6, 0xde1637ccf66d64a, 0x9b9b51f6b7f0df94, 0x88d626f328cee65, 0x8cb1a50d3eb3018a, 0xb95929271c6a96d9, 0xe99189f6224c9efd, 0xa9ebeaaf4677ee85, 0x5a07b9dc0a118ef2, 0xa64a0636c8038ec0, 0xec111712a226d4, 0xa74e9f37ef511735, 0xde8637a90015f47f, 0x297164699c1a1f48, 0xf93d04443073bb2a, 0x6e81a4e896e437da, 0x6616b67905076882, 0x7870a7f350fe0c7b, 0xdaa2a27570088f13, 0x4e763667a1000296, 0xd2a5412c5f83b9ee, 0x6e8e67767a187a0e, 0xc6d7d75b518e89d0, 0x6f1b73203c70b950]
def kDL3 : List (BitVec 64) := [0x8c74287b969fce9c, 0x64614554a502aae5, 0x21a5782f6cc560a, 0xc7d7a6b349c7e25b, 0x52e710d4fd21b29d, 0x39f6451bb45bb38b, 0x731f12647b4b0e90, 0x9a40f1bc90db2459, 0x1eefc0605d55e6b8, 0x2431869d2815a97f, 0x6e4f13cef7b90e3f, 0xe2d612491d932744, 0xb89a2b341087501c, 0xa1cc8836f4bc75a, 0x3347bd63a3967dd8, 0x738df81d9ddb0ae7, 0xebda9d74f4971fe, 0x3af4e0b0eb2d15e0, 0x3aaf1fd91579862a, 0xeb23f32cb4fde547, 0x5878e376b7f468ec, 0x1b3df4c9b165f21c, 0x3ca16baace6f3a19, 0x5682db10234d8c9d, 0xfddda064a28ec3fe]
def kDL4 : List (BitVec 64) := [0x995961c20da1023c, 0xf1ed9ce087fc4233, 0x565b95658f1bad95, 0x3eb281a756d55b8d, 0xc05918519835f8aa, 0xfeb93cfdf0798d5b, 0x7c8d91a4bb63b6a2, 0xfb839b9d612a6dd7, 0xe6de3455e877c2f3, 0xf413f5dfee0e659a, 0x13961df1bbf94b69, 0x4e8f324d9da7a541, 0xad2f7b7d6358f76, 0x4ad67644ecc64ef5, 0xa3639128a327899e, 0x33f3d3cbb048d18b, 0xf07f2c7aef93897a, 0x38eaf8381094007f, 0x4d3a44263db92e9, 0xe9dae11dc8213770, 0x4c882e11d1305939, 0x845bd55a3a06d1b0, 0x7fe338849d00b8ca, 0xeb9785c53551733c, 0x98f924b9ac0863ca]
def kDL5 : List (BitVec 64) := [0x16c2549557c4509c, 0x61d1df70edf567d4, 0x2e7ebbb634b5c118, 0xe652c03eece158a5, 0x8e39b2fd130a13a7, 0x1803f2c1451a4ca5, 0xf96ae74c2b88cb5f, 0x527b451e7cbec1c4, 0x7d58f7ec9d71707d, 0x4212a27556cf88ef, 0x75dcac573f04430a, 0xf66f710753d24aed, 0x2470590ebaae802f, 0x2fb18481ee90958a, 0xe52474fc2ca10831, 0x540142fc69468406, 0xed64f317f0a49ab2, 0x9334fa4b7d19fb16, 0x3f29fcc2f6f1fe6c, 0x15ab34cd21e2b1dc, 0xd6897d8bbe9aaa28, 0xefe1652f4d56e1da, 0x8dd376e5433450d9, 0x8d9c543ef9cf05d0, 0x14246e9198fc8cef]
def kDL6 : List (BitVec 64) := [0xf6e5969b128dc5df, 0xedb3b94da84796e8, 0x780344036f803d94, 0x937351196d8453ff, 0xff7d777a24ca841, 0x74c182fde31881f6, 0x6331bfe0c3ab337f, 0x7f86308f74e12e5, 0x57b2f31a64125300, 0x7e81fed529c1da08, 0x1ac5f36b5dc68341, 0x83eb509cb7f14dcc, 0xc195abec6d98d5ac, 0x87048b46d41308a0, 0x73bef9f8dbc8de27, 0xfbf9c57a8268ee1e, 0xdcbfbd22e6477748, 0x8d98cc013a3a049, 0xa2a7b24e5aa35b1, 0x7c9e04076792b292, 0x92cec6f28f276d56, 0xec95e4101f7da6d0, 0x28966a28b800c708, 0x9cac659a43a181d3, 0x5713828e9db98ff]
def kDL7 : List (BitVec 64) := [0x6764e4f880c7f0d3, 0xecc622ae59d3bdf5, 0xd516b6b9ec58499b, 0x3e40a83401a37881, 0xf1343e1933104142, 0x1d684a65792ee3f, 0x25b255fd6d08fa6, 0xcdc0499cc063f6a0, 0xc91eae012307b17f, 0x15eb62030d035016, 0x62139f49abd3f1, 0x3fd2ff055d14fd6c, 0xc669f7b23696d5c7, 0x70b1e5772ca77c08, 0xdd0481d6775a49b8, 0xb4dfcc69e1009c54, 0x77bda777b6378261, 0xf4641cbf16ca5529, 0x4211f4ec71b04fc2, 0x8d4c1c168a64db3, 0x99188bfaf6e1f1b, 0xd1dfc74ef2f6d6d, 0xbf756daaa602e171, 0x6fc7bee5112a8a27, 0xc009342c5e2a0744]
def kDL8 : List (BitVec 64) := [0x9998bf0c93e28a3, 0x12cbdd199c14f152, 0x40fcbdcff8ee9a05, 0x64a900e4ab26b6d7, 0xa90706decfce243, 0x64c70821251a281a, 0xdc583bcd26682cea, 0x15cbc19911874c4d, 0xcb6f98cfecf4ae5e, 0xba251013b40762cc, 0x50d94d719b129f4d, 0x62a1bc79e2cad08, 0x62338b5d16109fbb, 0xf10e608f95a105c9, 0x1ae128d131139d23, 0xef81562aab60c6f7, 0xd298e420b278b643, 0xc0fc1ae119799f3c, 0x3d0a281348bf8f77, 0xb402e58775daf570, 0xcb2210d62e996b3b, 0x70530e47edff7224, 0x31b226f9a0336996, 0xbf1e40420f4e4d31, 0xc321af986df06ddf]
def kDL9 : List (BitVec 64) := [0x10a3aea90af7c6b6, 0xce12b4be925b5044, 0x174b0bd7f56c5817, 0xcc1701a70f79b1de, 0xdf1176da5a27aed, 0xbaea0878f1da48eb, 0x10f441188fa50b91, 0x4a552b402befbb63, 0x7ff908d53ecb891a, 0x995b6389d4392f69, 0x76b5a8a6ef732bbf, 0x873801949515a7f3, 0x987a0fb3370a5dd9, 0x9ba0cf00076e7769, 0x7232e2c20e5b8e84, 0x44e5b649ada427c5, 0xa5554b231d33460b, 0x5d66d88228efe2e, 0x961b249444f30e9a, 0x5cdbf3b861e8b8e2, 0xe34de8840a5f6a97, 0x981f70af5a840157, 0x21b6ac8735c5405, 0x7a1117cc06f7e05a, 0x979a45dd197c7bb7]
def kDL10 : List (BitVec 64) := [0xe55210978a5ae09b, 0xee7eceeb629794cb, 0x3d034119b97cc1db, 0xfecd510147d1e00b, 0x8cc04cd3e6eabd95, 0xd9982d1d25e0c610, 0x7dba398dbf42a873, 0x1f28bc47b6660cc4, 0x52eeeb714c2ad9c4, 0xb9a49b4498bc0cd7, 0x254979be289464b4, 0xa0876fd331583889, 0x8d2b322e8a1567de, 0x17a6c660d9c9ce6c, 0xcce8ccc950d88efc, 0xedb4110f19e8e399, 0x8742668463edb067, 0xaac5951635a939e4, 0x25218231828f1efc, 0x74a16edfceb310a2, 0xdad98f0f10fb2ae5, 0x89f3f8701bc4bc36, 0xec1a46922b164f0f, 0xb402c1cd3ab2862c, 0x9947b3426d5b17bb]
def kDL11 : List (BitVec 64) := [0x9ed45df7ac2cf6e1, 0xe9f6605cfca50143, 0x7bbb47a522de84d8, 0xe88c66625778c512, 0x6f13c6c35a12bb8e, 0x7e4bc7a6d62e7e0d, 0x2c5ccc854205f4b5, 0x56ad1f554886e6bb, 0x3c047f54c2235750, 0x3080afe06d7512c1, 0x245c522fb71e0798, 0x3df567857176979c, 0x23abeb8219afd8f2, 0xf8a5529172fc5da1, 0xd49ff6c40a2a4558, 0xf694ee2317ddd61d, 0xbca967f286ff75d0, 0x56003a701824f375, 0x42c74caaf6f5712d, 0x401f0908de99efeb, 0x535d4ae0f6f081d6, 0xd9cd8b3d3572b252, 0x473866f43e38693, 0x88f4fd0441a71e2d, 0xd28cdeab8b6416a9]
def kDL12 : List (BitVec 64) := [0x1dfdfa04fc2bb46f, 0x5b2f5b6e3deb833f, 0x6ff0ebd968080721, 0x69e8aeb3a22726be, 0xfd7425b402093e21, 0x4e6a2245f07d4fd8, 0xb665ab6f7f17fbd, 0x35242851298288e2, 0x96302c87ca873cdd, 0xbbaf68dd64a6c77, 0x63c46c27b1c484be, 0xfedb17a34b50f165, 0xcb16d979892f2b0b, 0x55ea5ff60f5c7a40, 0xbe3a8adf3149e3d0, 0xed1a5709b1bfcbc, 0x123a6a5fda840c46, 0xc508c147b57c3ed, 0x76e8c3da11ed0b87, 0x90e50ce7a19cf7bb, 0xd2ad65813db9da3d, 0xe7b8eb72e98db9d7, 0x5e44a6b94ee38b81, 0x7f9133aae0828b3e, 0x16f7f19648ff1cc]
def kDL13 : List (BitVec 64) := [0x22a2fe01b8b7a369, 0x8bb25f4f4ce9292a, 0x52b226baa03b5638, 0xa6d717518824d934, 0xa3b471116cd95e92, 0xb5385e5b919c39a5, 0xb017c0b3facb2891, 0x6cb344d7fae2c510, 0x4010fd39ae4227d7, 0x487f6cd13473fc0a, 0x741c7bd3bfb187c9, 0xe8311aacd81858c2, 0x3175796e1e4b4777, 0x91c06100e6d430df, 0x8c70e4b0748e9fcb, 0x6511e1c458b79f5d, 0x4e294c42c34367a1, 0x39023fef0fce3255, 0x2402b231cd7507ea, 0x7326b745c51dc00a, 0x8c95a9383fdf3e98, 0xcf54cf257dfb58e8, 0xedd090d2b59f4588, 0x8667424980c0903f, 0x718df9746258241d]
def kDL14 : List (BitVec 64) := [0x72e0e325d692f642, 0xec3548759bbf8f62, 0x94b7e746c552cab4, 0x53c4aaa3cec422e8, 0xa436c3fe80342518, 0x62504a63c3f10ab2, 0x43ad311d9671d901, 0x86c527fca7a6b564, 0x578cdeefb6fc5534, 0x721a0d048beae30c, 0x35ebc08d213926cc, 0x264f26e44f645c65, 0x720de803ab119f3b, 0x6449b6adfee8e730, 0x4a5c66a8b475297d, 0x1015c8b77b169163, 0xbbeaa8b71efd37d9, 0xeb85934932ac9d55, 0xa7fcf9c678cd79f1, 0x9a15e098f0c08699, 0xfaf0e58f13716472, 0xefa8e9dae602717b, 0x7e37d192cbd6ad9d, 0x8797d641be30b4a7, 0xcc64daa506388dbc]
def kDL15 : List (BitVec 64) := [0x41ca058b8a0a5fc6, 0x397eb0fc9a0a28e1, 0xf3c77869abe67400, 0xef195eac21104d55, 0x9badcdebf387646c, 0xd0cf83a5c320a049, 0x4953392f0fcad0f3, 0x266bf90ede29f54a, 0xa59772f9c610807f, 0xac6edaedf2e17bcf, 0x92a2b11d597102d1, 0xe07cec67e9d4dd33, 0xab103df745108d8, 0x93a7188d9fa57855, 0x49d4fe4247de824b, 0xfd9b1dbf4399253b, 0xe1a77b6113bc9f9d, 0xba9f1441d3503c85, 0x49b30476b783de71, 0x1de23bd8c93a5068, 0x227986d87bd65b59, 0x9d3a1c8714440af, 0x31346d7fa500dc64, 0xcf94c48aef1a3195, 0xeb33c6b76c0bd861]
def kDL16 : List (BitVec 64) := [0xbb6a03ba1cda3f50, 0xfcd292542626fcac, 0x2031ea606ba41353, 0xd5a1c36bcc7bad3a, 0x9a9e5742030583a9, 0xc87a10da53a938d7, 0xee980dd3b6d49cb7, 0x775fdd20227f98df, 0x58d4b22be4871211, 0x18e1a8457f261448, 0x30b9b75d7b85d270, 0x536a92680b6e1b90, 0x287e70770bdc5a97, 0x6f1e15f93e081ade, 0xb76496baee13625b, 0x3cc475d501f0671f, 0x76061aa88dee8343, 0x56dc54ac303c6675, 0xb99e572219703f5b, 0xe68aa63ddf515e33, 0xcd70cbc815dc8fd3, 0x75f0ffd8907d7e41, 0x85895697fbb967df, 0x9f99f88708a3d733, 0xd16ffe525b1325f5]
def kDL17 : List (BitVec 64) := [0xf608ec4406973830, 0xa14870ac9bdea8b2, 0xaa392a138cf35c1c, 0xd6fe2e9607224de, 0xc0459760fdcfdc0e, 0xb8d1e29632818edc, 0x7132d9420a3bbc77, 0x37423987016f80fc, 0x35e2718300d2b7d6, 0xe8f2dc4606550e6c, 0x8f9c1adf0bfec5e8, 0x861c1fa4fc1ca6f, 0x83b2c1e91f196eee, 0xdc536183cb6b1826, 0xfcb4dfe4b6f4328b, 0x922cf1c01dd665c3, 0x9d4f2388cb7fcf7c, 0x9e3b6422c41322f5, 0x150d491eadb1cf29, 0x76752acacda4c62f, 0x3a8ded3060ed40a8, 0x17b895be67aaf04c, 0x43fc40b19b57b14, 0x39cae3465f5a33af, 0x79edad4c8f8b3821]
def kDL18 : List (BitVec 64) := [0x84b494fc811e7f6, 0x4b82f114c351ed68, 0x42017ecb3da44ef1, 0x38158107a504fba3, 0x4a95e4d37b95c087, 0xdd3d3dede9a98aa5, 0x31d5bc3d60b41019, 0x1ef18eb648e0cddd, 0x6ad895a0b932e3bd, 0xf81cb5796b26bea3, 0x1a4d3dfe86c80207, 0x6757b1f155a384f8, 0xb7b5bdb2583f527a, 0x264e91d1a80d196d, 0x6dd2a93e04ce9ec5, 0x2588c63ad2d78271, 0x33430ec6b24db3f, 0x76bc8febdd2fac25, 0xd5b14a5952cf2a62, 0xd3f0173b32ea2e9, 0xda4d2335c353d2b0, 0x3b030d9ae39c39fa, 0x2f7d38d5928b11a4, 0xe9503188cfbd91ea, 0xfe1beb2cc051eef1]
def kDL19 : List (BitVec 64) := [0x7edfd8c842ecef1d, 0xcd7bf4e3eebda96f, 0x85e6210e3e029723, 0xcbcf1a63b8c1b164, 0x926b073e26d8b5c9, 0xc0f0efe02db636e4, 0x329270e7bb2e383d, 0xf2bc234e73689fd1, 0xc72ca6b025098309, 0xe453f09125d5d7f2, 0x10ea7b0bf0a636b1, 0x404ac43e2d2fc9ca, 0x2601aa58b198a9cf, 0x94c562bdcf573ea4, 0xa8de221200e383c, 0x1b79a0bab6195a5e, 0x6d65f46bb29e2682, 0x5a302d56bab0eca, 0x497d78a13157f1b5, 0xeb0326afefa1e205, 0xce515a88c0776312, 0xc5071a073a2b4fb, 0x9c6cda0a65d7ba21, 0x141ca087b48f5a82, 0xbbd1518b60d3eb68]
def kDL20 : List (BitVec 64) := [0xdeb3a39194946dba, 0xa4829ed6695bbb3, 0xf1ee8394e31d4736, 0x77647e9d3632d5d, 0x4eb055281a443019, 0x112e50265b0bdafb, 0xbdc37b99c0055bfb, 0xad0e101834b680e1, 0x1b4520f635deefda, 0x178e8934ce1f23e7, 0x19bd32f9806fa50a, 0x283e0b799a267338, 0x1eca4f0f580d3388, 0x9f35c60a83eb7259, 0x6f06f51e8f6d6e0f, 0xbb1555f379563f4a, 0xedff3a855a8a4aca, 0x3e4ac08394c54d8a, 0xcccb2fb2adea30df, 0x84ee461117bea37c, 0xc66ffe0f82c3418d, 0xc48bb109f7547058, 0x3e5df5f590e4241b, 0xb712cd1664d1a656, 0x9bd499f9edb5975b]
def kDL21 : List (BitVec 64) := [0x1402f2b917ab9fa1, 0xf086390c7b049456, 0x7f3562cda0d32d87, 0x6a7c32dfd2c3ace5, 0xa3074342b2014d79, 0x904ae233e57084b6, 0xfc18fbd60af99965, 0x25e70c80371db8c8, 0x1332fa6ac02fbb28, 0xa1245d8ee1a1c26b, 0xa572129bdf9c9c2, 0x1d11bfbc49594b10, 0x669c2cd4113c1214, 0xcd93e49398d9e26e, 0x23985a2b2e7a2982, 0x96779e1a9f065e1f, 0xe4c209f9e93207f, 0x4acf80a5121ca03c, 0x8e0ba895d616e8d, 0x3caf2a4c765d0c48, 0xccec75fd1e2a0c9b, 0xcc07ad8d63720120, 0x6fe8a0e0e6416d27, 0x354ee763a20f5569, 0xbea9ab4331ac8c43]
def kDL22 : List (BitVec 64) := [0xf732eba1b6b3b6a7, 0x987b03a4e040bc12, 0xfc4fb90f7158e042, 0x709d328d1848ce09, 0x5348b63ed8e967ac, 0x4e4b8bb90147e5bd, 0x88355273cdd46751, 0xe2502320f2d30d42, 0x4e97759b65acfb9d, 0x15695221518e629a, 0x23984d28a08e010c, 0xf184d313331062fd, 0x3d2cf3eab302017a, 0xf9ef4c5f3bcaac12, 0x53b5282988b7ed90, 0x385b3c9ccc08e8f8, 0x9c32533e4f6cb337, 0x8ca4180677f35ed, 0xe934bee7adfccdd6, 0x5b6f9d4f6c40e557, 0xbfd4ff4823c4e1bc, 0x6eaad82db5536b42, 0x3e71b3c0d1c7f6e3, 0x49edef2cc4361646, 0xa964c9c4b0ab5d86]
def kDL23 : List (BitVec 64) := [0xbf0924b330be2d04, 0x63cab8ce13ff3b0, 0xdfa527809030c542, 0xa73a175b49147024, 0x538540cce24cffb1, 0x3356f58daebabee5, 0x5469746173c6a89d, 0x9d347177ea18176f, 0x34d12150b3fa1ef0, 0xd8c361822d528268, 0x5c01b6933b6de3d1, 0x52b7f862a02b6d4d, 0x136fc0421322ab74, 0x821b2420e819e546, 0x53ce96658967f3b3, 0x43b9e8ff0e85c85, 0x422769c89f006a51, 0x6d39e35e83650e16, 0x5e89ea9e480062f2, 0x8d173b05d5f873a9, 0x54ddc0773ad9c168, 0x8338329f7384f92a, 0x7e8c950e2c47136a, 0x82ff7384f1ed5db8, 0x6056170186398f73]
def kDL24 : List (BitVec 64) := [0x8a1414658cbb9159, 0x6c50ac146a67db29, 0x303ce6ac7557cdd2, 0x84ace9157745fea4, 0xdb661de4d840c324, 0x5a46ef761ba8b4b8, 0x89fdc71fd0994659, 0x5591b75a3742cacf, 0x3b888c11a40eb87, 0x851e9f7e7495d8b9, 0x22ea6e4056eaaca, 0x30c6ef38cefeb971, 0x3c2ec3dba3f4865f, 0xe5c23ea4535cee05, 0x7aa61e2b7d2fda8b, 0xbcbcad821dd99580, 0xfe0862ab36056394, 0x590ad3289323cd42, 0xc4e69d81e1bd13e6, 0xbfeb658d7d1cd5ec, 0x5153b4ace046c4a, 0x420e81dbf46751ce, 0x6259404dde34af3a, 0xdbc8562c95fca2bb, 0xc6d5acb7739863f3]
theorem kDR0 : ∀ j : Nat, j < 25 → rnd 0 (lk kDL0) j = lk kDL1 j := by decide +kernel
theorem kDR1 : ∀ j : Nat, j < 25 → rnd 1 (lk kDL1) j = lk kDL2 j := by decide +kernel
theorem kDR2 : ∀ j : Nat, j < 25 → rnd 2 (lk kDL2) j = lk kDL3 j := by decide +kernel
theorem kDR3 : ∀ j : Nat, j < 25 → rnd 3 (lk kDL3) j = lk kDL4 j := by decide +kernel
theorem kDR4 : ∀ j : Nat, j < 25 → rnd 4 (lk kDL4) j = lk kDL5 j := by decide +kernel
theorem kDR5 : ∀ j : Nat, j < 25 → rnd 5 (lk kDL5) j = lk kDL6 j := by decide +kernel
theorem kDR6 : ∀ j : Nat, j < 25 → rnd 6 (lk kDL6) j = lk kDL7 j := by decide +kernel
theorem kDR7 : ∀ j : Nat, j < 25 → rnd 7 (lk kDL7) j = lk kDL8 j := by decide +kernel
theorem kDR8 : ∀ j : Nat, j < 25 → rnd 8 (lk kDL8) j = lk kDL9 j := by decide +kernel
theorem kDR9 : ∀ j : Nat, j < 25 → rnd 9 (lk kDL9) j = lk kDL10 j := by decide +kernel
theorem kDR10 : ∀ j : Nat, j < 25 → rnd 10 (lk kDL10) j = lk kDL11 j := by decide +kernel
theorem kDR11 : ∀ j : Nat, j < 25 → rnd 11 (lk kDL11) j = lk kDL12 j := by decide +kernel
theorem kDR12 : ∀ j : Nat, j < 25 → rnd 12 (lk kDL12) j = lk kDL13 j := by decide +kernel
theorem kDR13 : ∀ j : Nat, j < 25 → rnd 13 (lk kDL13) j = lk kDL14 j := by decide +kernel
theorem kDR14 : ∀ j : Nat, j < 25 → rnd 14 (lk kDL14) j = lk kDL15 j := by decide +kernel
theorem kDR15 : ∀ j : Nat, j < 25 → rnd 15 (lk kDL15) j = lk kDL16 j := by decide +kernel
theorem kDR16 : ∀ j : Nat, j < 25 → rnd 16 (lk kDL16) j = lk kDL17 j := by decide +kernel
theorem kDR17 : ∀ j : Nat, j < 25 → rnd 17 (lk kDL17) j = lk kDL18 j := by decide +kernel
theorem kDR18 : ∀ j : Nat, j < 25 → rnd 18 (lk kDL18) j = lk kDL19 j := by decide +kernel
theorem kDR19 : ∀ j : Nat, j < 25 → rnd 19 (lk kDL19) j = lk kDL20 j := by decide +kernel
theorem kDR20 : ∀ j : Nat, j < 25 → rnd 20 (lk kDL20) j = lk kDL21 j := by decide +kernel
theorem kDR21 : ∀ j : Nat, j < 25 → rnd 21 (lk kDL21) j = lk kDL22 j := by decide +kernel
theorem kDR22 : ∀ j : Nat, j < 25 → rnd 22 (lk kDL22) j = lk kDL23 j := by decide +kernel
theorem kDR23 : ∀ j : Nat, j < 25 → rnd 23 (lk kDL23) j = lk kDL24 j := by decide +kernel
theorem kDS0 : ∀ j : Nat, j < 25 → rnds 0 (xorB zeroS (padB kDm)) j = lk kDL0 j := by decide +kernel
theorem kDS1 : ∀ j : Nat, j < 25 → rnds 1 (xorB zeroS (padB kDm)) j = lk kDL1 j := fun j hj => (rnd_congr 0 kDS0 j hj).trans (kDR0 j hj)
theorem kDS2 : ∀ j : Nat, j < 25 → rnds 2 (xorB zeroS (padB kDm)) j = lk kDL2 j := fun j hj => (rnd_congr 1 kDS1 j hj).trans (kDR1 j hj)
theorem kDS3 : ∀ j : Nat, j < 25 → rnds 3 (xorB zeroS (padB kDm)) j = lk kDL3 j := fun j hj => (rnd_congr 2 kDS2 j hj).trans (kDR2 j hj)
theorem kDS4 : ∀ j : Nat, j < 25 → rnds 4 (xorB zeroS (padB kDm)) j = lk kDL4 j := fun j hj => (rnd_congr 3 kDS3 j hj).trans (kDR3 j hj)
theorem kDS5 : ∀ j : Nat, j < 25 → rnds 5 (xorB zeroS (padB kDm)) j = lk kDL5 j := fun j hj => (rnd_congr 4 kDS4 j hj).trans (kDR4 j hj)
theorem kDS6 : ∀ j : Nat, j < 25 → rnds 6 (xorB zeroS (padB kDm)) j = lk kDL6 j := fun j hj => (rnd_congr 5 kDS5 j hj).trans (kDR5 j hj)
theorem kDS7 : ∀ j : Nat, j < 25 → rnds 7 (xorB zeroS (padB kDm)) j = lk kDL7 j := fun j hj => (rnd_congr 6 kDS6 j hj).trans (kDR6 j hj)
theorem kDS8 : ∀ j : Nat, j < 25 → rnds 8 (xorB zeroS (padB kDm)) j = lk kDL8 j := fun j hj => (rnd_congr 7 kDS7 j hj).trans (kDR7 j hj)
theorem kDS9 : ∀ j : Nat, j < 25 → rnds 9 (xorB zeroS (padB kDm)) j = lk kDL9 j := fun j hj => (rnd_congr 8 kDS8 j hj).trans (kDR8 j hj)
theorem kDS10 : ∀ j : Nat, j < 25 → rnds 10 (xorB zeroS (padB kDm)) j = lk kDL10 j := fun j hj => (rnd_congr 9 kDS9 j hj).trans (kDR9 j hj)
theorem kDS11 : ∀ j : Nat, j < 25 → rnds 11 (xorB zeroS (padB kDm)) j = lk kDL11 j := fun j hj => (rnd_congr 10 kDS10 j hj).trans (kDR10 j hj)
theorem kDS12 : ∀ j : Nat, j < 25 → rnds 12 (xorB zeroS (padB kDm)) j = lk kDL12 j := fun j hj => (rnd_congr 11 kDS11 j hj).trans (kDR11 j hj)
theorem kDS13 : ∀ j : Nat, j < 25 → rnds 13 (xorB zeroS (padB kDm)) j = lk kDL13 j := fun j hj => (rnd_congr 12 kDS12 j hj).trans (kDR12 j hj)
theorem kDS14 : ∀ j : Nat, j < 25 → rnds 14 (xorB zeroS (padB kDm)) j = lk kDL14 j := fun j hj => (rnd_congr 13 kDS13 j hj).trans (kDR13 j hj)
theorem kDS15 : ∀ j : Nat, j < 25 → rnds 15 (xorB zeroS (padB kDm)) j = lk kDL15 j := fun j hj => (rnd_congr 14 kDS14 j hj).trans (kDR14 j hj)
theorem kDS16 : ∀ j : Nat, j < 25 → rnds 16 (xorB zeroS (padB kDm)) j = lk kDL16 j := fun j hj => (rnd_congr 15 kDS15 j hj).trans (kDR15 j hj)
theorem kDS17 : ∀ j : Nat, j < 25 → rnds 17 (xorB zeroS (padB kDm)) j = lk kDL17 j := fun j hj => (rnd_congr 16 kDS16 j hj).trans (kDR16 j hj)
theorem kDS18 : ∀ j : Nat, j < 25 → rnds 18 (xorB zeroS (padB kDm)) j = lk kDL18 j := fun j hj => (rnd_congr 17 kDS17 j hj).trans (kDR17 j hj)
theorem kDS19 : ∀ j : Nat, j < 25 → rnds 19 (xorB zeroS (padB kDm)) j = lk kDL19 j := fun j hj => (rnd_congr 18 kDS18 j hj).trans (kDR18 j hj)
theorem kDS20 : ∀ j : Nat, j < 25 → rnds 20 (xorB zeroS (padB kDm)) j = lk kDL20 j := fun j hj => (rnd_congr 19 kDS19 j hj).trans (kDR19 j hj)
theorem kDS21 : ∀ j : Nat, j < 25 → rnds 21 (xorB zeroS (padB kDm)) j = lk kDL21 j := fun j hj => (rnd_congr 20 kDS20 j hj).trans (kDR20 j hj)
theorem kDS22 : ∀ j : Nat, j < 25 → rnds 22 (xorB zeroS (padB kDm)) j = lk kDL22 j := fun j hj => (rnd_congr 21 kDS21 j hj).trans (kDR21 j hj)
theorem kDS23 : ∀ j : Nat, j < 25 → rnds 23 (xorB zeroS (padB kDm)) j = lk kDL23 j := fun j hj => (rnd_congr 22 kDS22 j hj).trans (kDR22 j hj)
theorem kDS24 : ∀ j : Nat, j < 25 → rnds 24 (xorB zeroS (padB kDm)) j = lk kDL24 j := fun j hj => (rnd_congr 23 kDS23 j hj).trans (kDR23 j hj)
theorem kD_last (j : Nat) (h : j < 25) : lastS kDm j = lk kDL24 j := kDS24 j h
theorem kD_sum : sumOf kDm = kDh := by
  have e : sumOf kDm = (List.range 32).map (outAt (lk kDL24)) := by
    unfold sumOf
    refine List.map_congr_left (fun i hi => ?_)
    have hi := List.mem_range.1 hi
    simp only [outAt, kD_last (i / 8) (by omega)]
  rw [e]; decide +kernel
def kH (b : List UInt8) : List UInt8 := if b = kAm then kAh else if b = kBm then kBh else if b = kCm then kCh else if b = kDm then kDh else sumOf b
theorem kH_eq : kH = sumOf := by
  funext b
  unfold kH
  by_cases hA : b = kAm
  · subst hA; simp only [if_true]; exact kA_sum.symm
  rw [if_neg hA]
  by_cases hB : b = kBm
  · subst hB; simp only [if_true]; exact kB_sum.symm
  rw [if_neg hB]
  by_cases hC : b = kCm
  · subst hC; simp only [if_true]; exact kC_sum.symm
  rw [if_neg hC]
  by_cases hD : b = kDm
  · subst hD; simp only [if_true]; exact kD_sum.symm
  rw [if_neg hD]

end Go.Vcg
end

section
set_option linter.unusedVariables false
set_option linter.unusedSimpArgs false
namespace Go.Trie
open Go.Vcg
/-- A node's item, the hashes told by a function. -/
def wrapH (H : By → By) (x : It) : It := if 32 ≤ (enc x).length then .s (H (enc x)) else x
def itemH (H : By → By) : Nd → It
  | .nil => .s []
  | .leaf p v => .l [.s (packed p true), .s v]
  | .row p c => .l [.s (packed p false), wrapH H (itemH H c)]
  | .branch cs v => .l (((List.finRange 16).map fun i => wrapH H (itemH H (cs i))) ++ [.s v])
theorem wrapH_sum (x : It) : wrapH sumOf x = wrapRef x := rfl
theorem itemH_sum : ∀ (n : Nd), itemH sumOf n = itemOf n
  | .nil => rfl
  | .leaf p v => rfl
  | .row p c => by simp only [itemH, itemOf, itemH_sum c, wrapH_sum]
  | .branch cs v => by
    have : (fun i => wrapH sumOf (itemH sumOf (cs i))) = fun i => wrapRef (itemOf (cs i)) := by
      funext i
      rw [itemH_sum (cs i), wrapH_sum]
    simp only [itemH, itemOf, this]
theorem rootOf_kH (n : Nd) : rootOf n = kH (enc (itemH kH n)) := by rw [kH_eq, itemH_sum]; rfl
def kDo : By := [100, 111]
def kDog : By := [100, 111, 103]
def kDoge : By := [100, 111, 103, 101]
def kHorse : By := [104, 111, 114, 115, 101]
def vVerb : By := [118, 101, 114, 98]
def vPuppy : By := [112, 117, 112, 112, 121]
def vCoin : By := [99, 111, 105, 110]
def vStallion : By := [115, 116, 97, 108, 108, 105, 111, 110]
def n1 : Nd := (putT .nil kDo vVerb).2
def n2 : Nd := (putT n1 kDog vPuppy).2
def n3 : Nd := (putT n2 kDoge vCoin).2
def n4 : Nd := (putT n3 kHorse vStallion).2
theorem code1 : (putT .nil kDo vVerb).1 = 0 := by kernel_rfl
theorem code2 : (putT n1 kDog vPuppy).1 = 0 := by kernel_rfl
theorem code3 : (putT n2 kDoge vCoin).1 = 0 := by kernel_rfl
theorem code4 : (putT n3 kHorse vStallion).1 = 0 := by kernel_rfl
theorem root4 : rootOf n4 = kDh := by rw [rootOf_kH]; kernel_rfl
theorem get4 : get n4 (nibbles kDog) = some vPuppy := by kernel_rfl
end Go.Trie
namespace Go.Proofs.Ytfghidehlnfdiaa
open Go Go.Vcg Go.Trie
/-- A literal's bytes. -/
theorem lit_bytes (w : World) {bs : By} {A : Array Value} (hA : A.toList = bs.map bV) (l k : Nat) :
    ∃ w2, Sem.run Try.prog (convert 22 22 (.slice (some ⟨w.heap.size, 0, none⟩) l k)) (w.alloc (.cells A 5)) = .ok (.slice (some ⟨w.heap.size, 0, none⟩) l k) w2 ∧ Vcg.Mod NoB w w2 ∧ RdB w2 (some ⟨w.heap.size, 0, none⟩) bs := by
  have B := Blk.new w 5 A
  obtain ⟨w2, h2, M2, hc2⟩ := convert_same (P := Try.prog) (t := tSlU8) (l := l) (c := k) und_slU8 (by kernel_rfl) B
  refine ⟨w2, h2, mod_of (Mod.alloc w _) M2 (Nat.le_refl _), fun hne => ⟨w.heap.size, 0, rfl, ?_, fun i hi => ?_⟩⟩
  · have := M2.size
    have := B.lt
    omega
  · rw [hc2, B.cell, Nat.zero_add, ← Array.getElem?_toList, hA]
    exact map_bV_get hi
theorem tAt_mod {w w' : World} {L : Nat → Nat} {t : Nat} {n : Nd} (h : TrieAt w L 1 2 t n) (M : Vcg.Mod NoB w w') (q : Nat) : TrieAt w' (ext L w.heap.size q) 1 2 t n := h.stp (S := NoS) (Stp.of_nob M q) (fun h => h) (fun h => h)
theorem trie_new {w w1 : World} {t : Nat} {v : Value} {L : Nat → Nat} (M : Vcg.Mod NoB w w1) (ht : w.heap.size ≤ t) (T : Blk w1 t tTrie #[.nilIface, v]) : TrieAt w1 (ext L w.heap.size 1) 1 2 t .nil :=
  ⟨.nilIface, v, ⟨T, ext_new ht⟩, rfl, trivial, fits_nil⟩
/-- What is not a trie's own stays as it was. -/
theorem stp_mod {w w1 w2 : World} {L1 L2 : Nat → Nat} (M : Vcg.Mod NoB w w1) (hL : ∀ k, k < w.heap.size → L1 k ≠ 1) (s : Stp (· = 1) w1 L1 w2 L2) : Vcg.Mod NoB w w2 ∧ ∀ k, k < w.heap.size → L2 k ≠ 1 :=
  ⟨M.trans (s.mod (Q := fun k => w.heap.size ≤ k) (fun k hk hs => Nat.not_lt.1 fun hlt => hL k hlt hs)) (fun i hi hq => by omega), fun k hk => by rw [s.lab k (Nat.lt_of_lt_of_le hk M.size)]; exact hL k hk⟩
theorem ext_keep {N M q : Nat} {L : Nat → Nat} (hM : N ≤ M) (h : ∀ k, k < N → L k ≠ 1) : ∀ k, k < N → ext L M q k ≠ 1 := fun k hk => by rw [ext_old (by omega)]; exact h k hk
theorem known14_calls (w : World) : Calls Try.prog morainelaw14_known.n #[] w (fun e w' => e = .returned (.bool true) ∧ Vcg.Mod NoB w w') := by
  refine morainelaw14_known.vc _ _ ?_
  unfold morainelaw14_known.Vc
  refine (Empty_calls w).mono ?_
  rintro _ w1 ⟨rfl, M1⟩
  refine ⟨_, rfl, (tNew_calls w1 0).mono ?_⟩
  rintro _ w2 ⟨t, v, rfl, M2, ht, T⟩
  have hz := M1.size
  have I : Vcg.Mod NoB w w2 ∧ ∀ k, k < w.heap.size → ext (fun _ => 0) w1.heap.size 1 k ≠ 1 := ⟨M1.trans M2 (fun _ _ h => h), ext_keep hz (fun _ _ => by decide)⟩
  have A := trie_new (L := fun _ => 0) M2 ht T
  generalize ext (fun _ => 0) w1.heap.size 1 = L at *
  refine ⟨_, rfl, fun h => (by cases h), fun _ => ?_⟩
  -- a step: two literals, a Put
  have step : ∀ {w : World} {L : Nat → Nat} {n : Nd} {w0 : World} {k x : By} {Ak Ax : Array Value} {R : Ending → World → Prop} {lk lx : Nat}, (Vcg.Mod NoB w0 w ∧ ∀ k, k < w0.heap.size → L k ≠ 1) → TrieAt w L 1 2 t n → Ak.toList = k.map bV → Ax.toList = x.map bV → lk = k.length → lx = x.length →
      (∀ w' L', (Vcg.Mod NoB w0 w' ∧ ∀ k, k < w0.heap.size → L' k ≠ 1) → TrieAt w' L' 1 2 t (putT n k x).2 → R (.returned (.int .i64 (putT n k x).1)) w') →
      ∀ (d6 : Addr) (w7 : World), IsNew w 5 Ak d6 w7 →
        ∃ (v8 : Value) (w9 : World), Sem.run Try.prog (convert 22 22 (.slice (some d6) lk lk)) w7 = .ok v8 w9 ∧
        ∃ o10 : Option Addr, ∃ l11 : Nat, ∃ l12 : Nat, v8 = (.slice o10 l11 l12) ∧
        ∀ (d13 : Addr) (w14 : World), IsNew w9 5 Ax d13 w14 →
        ∃ (v15 : Value) (w16 : World), Sem.run Try.prog (convert 22 22 (.slice (some d13) lx lx)) w14 = .ok v15 w16 ∧
        ∃ o17 : Option Addr, ∃ l18 : Nat, ∃ l19 : Nat, v15 = (.slice o17 l18 l19) ∧
        Calls Try.prog 55 #[(.pointer (some ⟨t, 0, none⟩)), (.slice o10 l11 l12), (.slice o17 l18 l19)] w16 R := by
    rintro w L n w0 k x Ak Ax R _ _ I A hAk hAx rfl rfl hR d w1 ⟨rfl, rfl⟩
    obtain ⟨w2, h2, M2, r2⟩ := lit_bytes w hAk k.length k.length
    refine ⟨_, w2, h2, _, _, _, rfl, ?_⟩
    rintro d w3 ⟨rfl, rfl⟩
    obtain ⟨w4, h4, M4, r4⟩ := lit_bytes w2 hAx x.length x.length
    have M24 := M2.trans M4 (fun _ _ h => h)
    have A4 := tAt_mod A M24 0
    have I4 : Vcg.Mod NoB w0 w4 ∧ ∀ k, k < w0.heap.size → ext L w.heap.size 0 k ≠ 1 := ⟨I.1.trans M24 (fun _ _ h => h), ext_keep I.1.size I.2⟩
    refine ⟨_, w4, h4, _, _, _, rfl, (Put_calls (kx := x.length) (k := k.length) A4 (by decide) (r2.mod' M4) r4).mono ?_⟩
    rintro _ w5 ⟨rfl, s5, A5⟩
    exact hR _ _ (stp_mod I4.1 I4.2 s5) A5
  refine step (k := kDo) (x := vVerb) I A rfl rfl rfl rfl (fun w3 L3 I3 A3 => ⟨_, rfl, fun h => (h code1).elim, fun _ => ?_⟩)
  refine step (k := kDog) (x := vPuppy) I3 A3 rfl rfl rfl rfl (fun w4 L4 I4 A4 => ⟨_, rfl, fun h => (h code2).elim, fun _ => ?_⟩)
  refine step (k := kDoge) (x := vCoin) I4 A4 rfl rfl rfl rfl (fun w5 L5 I5 A5 => ⟨_, rfl, fun h => (h code3).elim, fun _ => ?_⟩)
  refine step (k := kHorse) (x := vStallion) I5 A5 rfl rfl rfl rfl (fun w6 L6 I6 A6 => ⟨_, rfl, fun h => (h code4).elim, fun _ => ?_⟩)
  refine (Root_calls A6).mono ?_
  rintro _ w7 ⟨rfl, M7⟩
  refine ⟨_, rfl, ?_⟩
  rintro d w8 ⟨rfl, rfl⟩
  have H8 := Blk.new w7 26 (Array.replicate 32 (.int .u8 0))
  obtain ⟨g1, g2, g3⟩ := hash_store H8 (by simp) (rootOf n4)
  have M8 := mod_of (M7.step_alloc (.cells (Array.replicate 32 (.int .u8 0)) 26)) g3 M7.size
  refine ⟨_, g1, ?_⟩
  generalize w7.heap.size = D at *
  generalize ((w7.alloc (.cells (Array.replicate 32 (.int .u8 0)) 26)).setRow D (hashA (rootOf n4))) = w8 at *
  rintro d w9 ⟨rfl, rfl⟩
  obtain ⟨w10, h10, M10, r10⟩ := lit_bytes w8 (bs := kDog) (A := #[(.int .u8 100), (.int .u8 111), (.int .u8 103)]) rfl 3 3
  have M6a := M8.trans M10 (fun _ _ h => h)
  obtain ⟨nv, ng, T6, N6, C6, F6⟩ := tAt_mod A6 M6a 0
  refine ⟨_, w10, h10, _, _, _, rfl, (Get_calls (k := 3) T6.blk N6 C6 (small_of C6 F6) r10 (by decide)).mono ?_⟩
  rintro _ w11 ⟨o11, k11, rfl, F11⟩
  have eg : says (Trie.get n4 (nibbles kDog)) = (vPuppy, true) := by rw [get4]; rfl
  have eg' : says (Trie.get (putT (putT (putT (putT .nil kDo vVerb).2 kDog vPuppy).2 kDoge vCoin).2 kHorse vStallion).2 (nibbles kDog)) = (vPuppy, true) := eg
  rw [eg'] at F11 ⊢
  have H11 := g2.mod' (M10.trans F11.mod (fun _ _ h => h))
  have hc : ∀ i, i < 32 → (hashA (rootOf n4))[i]? = some (bV (kDh.getD i 0)) := fun i hi => by rw [root4]; exact get_arrOf_lt hi
  have M0 : Vcg.Mod NoB w w11 := (I6.1.trans M6a (fun _ _ h => h)).trans F11.mod (fun _ _ h => h)
  refine ⟨_, _, _, _, _, rfl, _, H11.rd1 (hc 0 (by omega)), fun _ => ⟨_, by rw [add_at]; exact H11.rd1 (hc 1 (by omega)), fun _ => ⟨_, by rw [add_at]; exact H11.rd1 (hc 31 (by omega)), fun _ => ⟨fun _ => ⟨fun _ => ⟨_, toStr (fresh_bytes F11), _, rfl, fun _ => ?_, fun h => ?_⟩, fun h => (h rfl).elim⟩, fun h => by cases h⟩, fun h => (h (by decide)).elim⟩, fun h => (h (by decide)).elim⟩, fun h => (h (by decide)).elim⟩
  · refine (Empty_calls w11).mono ?_
    rintro _ w12 ⟨rfl, M12⟩
    refine ⟨_, rfl, (rEmpty_calls w12).mono ?_⟩
    rintro _ w13 ⟨rfl, M13⟩
    exact ⟨_, rfl, _, hash_eq _ _ (length_sumOf _) (length_sumOf _), _, rfl, by simp, (M0.trans M12 (fun _ _ h => h)).trans M13 (fun _ _ h => h)⟩
  · have e : strB .eql (strOf vPuppy) ⟨#[112, 117, 112, 112, 121]⟩ = true := strB_strOf vPuppy vPuppy
    rw [e] at h; cases h
end Go.Proofs.Ytfghidehlnfdiaa
end

section
set_option linter.unusedVariables false
namespace Go.Proofs.Ytfghidehlnfdiaa
open Go Go.Vcg

abbrev trie_Unpack.n : Nat := 42
def trie_Unpack.Vc (o0 : Option Addr) (l0 : Nat) (c0 : Nat) (w : World) (R : Ending → World → Prop) : Prop :=
  Calls Try.prog 40 #[(.slice o0 l0 c0)] w (fun e1 w2 =>
    ∃ o3 : Option Addr, ∃ l4 : Nat, ∃ l5 : Nat, e1 = .returned (.slice o3 l4 l5) ∧
    (((((l4 : Nat) : Int) = 0 →
      R (.returned (.tuple #[(.slice none 0 0), (.bool false), (.int .i64 143)])) w2)) ∧
     ((((l4 : Nat) : Int) ≠ 0 →
      ∃ d6 : Addr, o3 = some d6 ∧
      ((0 : Int) ≤ 0 ∧ 0 < ((l4 : Nat) : Int)) ∧
      ∃ n7 : Int, World.cell? w2 (Addr.add d6 0) = some (.int .u8 n7) ∧
      (((n7 > 3 →
        R (.returned (.tuple #[(.slice none 0 0), (.bool false), (.int .i64 143)])) w2)) ∧
       ((¬ n7 > 3 →
        (((((l4 : Nat) : Int) > 130 →
          R (.returned (.tuple #[(.slice none 0 0), (.bool false), (.int .i64 143)])) w2)) ∧
         ((¬ ((l4 : Nat) : Int) > 130 →
          ∃ d8 : Addr, o3 = some d8 ∧
          ((0 : Int) ≤ 0 ∧ 0 < ((l4 : Nat) : Int)) ∧
          ∃ n9 : Int, World.cell? w2 (Addr.add d8 0) = some (.int .u8 n9) ∧
          1 ≤ l4 ∧
          ∃ (J10 : Option Addr → Nat → Nat → World → Prop), (∃ d11 : Addr, o3 = some d11 ∧
           ((0 : Int) ≤ 0 ∧ 0 < ((l4 : Nat) : Int)) ∧
           ∃ n12 : Int, World.cell? w2 (Addr.add d11 0) = some (.int .u8 n12) ∧
           ((((Int.tmod n12 2) = 0 →
             2 ≤ l4 ∧
             J10 (subO o3 l5 2 1) (l4 - 2) (l5 - 2) w2)) ∧
            (((Int.tmod n12 2) ≠ 0 →
             J10 (subO o3 l5 1 1) (l4 - 1) (l5 - 1) w2)))) ∧
          (∀ (o13 : Option Addr) (l13 : Nat) (c13 : Nat) (j14 : Nat → Value) (w14 : World), J10 o13 l13 c13 w14 →
            Calls Try.prog 38 #[(.slice o13 l13 c13), (.bool (decide (n9 > 1)))] w14 (fun e15 w16 =>
              ∃ o17 : Option Addr, ∃ l18 : Nat, ∃ l19 : Nat, ∃ n20 : Int, e15 = .returned (.tuple #[(.slice o17 l18 l19), (.int .i64 n20)]) ∧
              (((n20 ≠ 0 →
                R (.returned (.tuple #[(.slice none 0 0), (.bool false), (.int .i64 143)])) w16)) ∧
               ((n20 = 0 →
                Calls Try.prog 87 #[(.slice o17 l18 l19), (.slice o0 l0 c0)] w16 (fun e21 w22 =>
                  ∃ b23 : Bool, e21 = .returned (.bool b23) ∧
                  (((b23 = false →
                    R (.returned (.tuple #[(.slice none 0 0), (.bool false), (.int .i64 143)])) w22)) ∧
                   ((b23 = true →
                    R (.returned (.tuple #[(.slice o13 l13 c13), (.bool (decide (n9 > 1))), (.int .i64 0)])) w22)))))))))))))))))))
theorem trie_Unpack.vc (o0 : Option Addr) (l0 : Nat) (c0 : Nat) (w : World) (R : Ending → World → Prop) (h : trie_Unpack.Vc o0 l0 c0 w R) : Calls Try.prog 42 #[(.slice o0 l0 c0)] w R :=
  execF_sound (R := ⟨R, false⟩) (ann := [(1000008, [(7, .cell (.slice))])]) (args := [.slice o0 l0 c0]) Try.func42 mixed (Eq.mp (by kernel_rfl : trie_Unpack.Vc o0 l0 c0 w R = execF (pA Try.prog ⟨R, false⟩) Try.prog [(1000008, [(7, .cell (.slice))])] Try.f42 [.slice o0 l0 c0] w) h)

abbrev moraineref14_Unpack.n : Nat := 43
def moraineref14_Unpack.Vc (o0 : Option Addr) (l0 : Nat) (c0 : Nat) (w : World) (R : Ending → World → Prop) : Prop :=
  (((((l0 : Nat) : Int) = 0 →
    R (.returned (.tuple #[(.slice none 0 0), (.bool false), (.int .i64 143)])) w)) ∧
   ((((l0 : Nat) : Int) ≠ 0 →
    (((((l0 : Nat) : Int) > 65 →
      R (.returned (.tuple #[(.slice none 0 0), (.bool false), (.int .i64 143)])) w)) ∧
     ((¬ ((l0 : Nat) : Int) > 65 →
      Calls Try.prog 41 #[(.slice o0 l0 c0)] w (fun e1 w2 =>
        ∃ o3 : Option Addr, ∃ l4 : Nat, ∃ l5 : Nat, e1 = .returned (.slice o3 l4 l5) ∧
        ∃ d6 : Addr, o3 = some d6 ∧
        ((0 : Int) ≤ 0 ∧ 0 < ((l4 : Nat) : Int)) ∧
        ∃ n7 : Int, World.cell? w2 (Addr.add d6 0) = some (.int .u8 n7) ∧
        (((n7 > 3 →
          R (.returned (.tuple #[(.slice none 0 0), (.bool false), (.int .i64 143)])) w2)) ∧
         ((¬ n7 > 3 →
          ((((Int.tmod n7 2) = 0 →
            ∃ d8 : Addr, o3 = some d8 ∧
            ((0 : Int) ≤ 1 ∧ 1 < ((l4 : Nat) : Int)) ∧
            ∃ n9 : Int, World.cell? w2 (Addr.add d8 1) = some (.int .u8 n9) ∧
            (((n9 ≠ 0 →
              R (.returned (.tuple #[(.slice none 0 0), (.bool false), (.int .i64 143)])) w2)) ∧
             ((n9 = 0 →
              ((0 : Int) ≤ (IntKind.wrap .u8 (2 - (Int.tmod n7 2))) ∧ (IntKind.wrap .u8 (2 - (Int.tmod n7 2))) ≤ ((l4 : Nat) : Int)) ∧
              ((((((l4 - (Int.toNat (IntKind.wrap .u8 (2 - (Int.tmod n7 2))))) : Nat) : Int) > 128 →
                R (.returned (.tuple #[(.slice none 0 0), (.bool false), (.int .i64 143)])) w2)) ∧
               ((¬ (((l4 - (Int.toNat (IntKind.wrap .u8 (2 - (Int.tmod n7 2))))) : Nat) : Int) > 128 →
                R (.returned (.tuple #[(.slice (subO o3 l5 (Int.toNat (IntKind.wrap .u8 (2 - (Int.tmod n7 2)))) 1) (l4 - (Int.toNat (IntKind.wrap .u8 (2 - (Int.tmod n7 2))))) (l5 - (Int.toNat (IntKind.wrap .u8 (2 - (Int.tmod n7 2)))))), (.bool (decide (n7 > 1))), (.int .i64 0)])) w2)))))))) ∧
           (((Int.tmod n7 2) ≠ 0 →
            ((0 : Int) ≤ (IntKind.wrap .u8 (2 - (Int.tmod n7 2))) ∧ (IntKind.wrap .u8 (2 - (Int.tmod n7 2))) ≤ ((l4 : Nat) : Int)) ∧
            ((((((l4 - (Int.toNat (IntKind.wrap .u8 (2 - (Int.tmod n7 2))))) : Nat) : Int) > 128 →
              R (.returned (.tuple #[(.slice none 0 0), (.bool false), (.int .i64 143)])) w2)) ∧
             ((¬ (((l4 - (Int.toNat (IntKind.wrap .u8 (2 - (Int.tmod n7 2))))) : Nat) : Int) > 128 →
              R (.returned (.tuple #[(.slice (subO o3 l5 (Int.toNat (IntKind.wrap .u8 (2 - (Int.tmod n7 2)))) 1) (l4 - (Int.toNat (IntKind.wrap .u8 (2 - (Int.tmod n7 2))))) (l5 - (Int.toNat (IntKind.wrap .u8 (2 - (Int.tmod n7 2)))))), (.bool (decide (n7 > 1))), (.int .i64 0)])) w2))))))))))))))))
theorem moraineref14_Unpack.vc (o0 : Option Addr) (l0 : Nat) (c0 : Nat) (w : World) (R : Ending → World → Prop) (h : moraineref14_Unpack.Vc o0 l0 c0 w R) : Calls Try.prog 43 #[(.slice o0 l0 c0)] w R :=
  execF_sound (R := ⟨R, false⟩) (ann := []) (args := [.slice o0 l0 c0]) Try.func43 mixed (Eq.mp (by kernel_rfl : moraineref14_Unpack.Vc o0 l0 c0 w R = execF (pA Try.prog ⟨R, false⟩) Try.prog [] Try.f43 [.slice o0 l0 c0] w) h)


end Go.Proofs.Ytfghidehlnfdiaa
end
